/- Draws of series, seldom spoilt; draws of characteristic series. -/
-- tables
-- rec
import Derived.Test.YthpbaehnkmmkgaaGreatK149
import Derived.Test.YthpbaehnkmmkgaaGreatKS
import Derived.Test.YthpbaehnkmmkgaaGreatK139
namespace Go.Proofs
open Go Go.Vm Go.Fg Go.Fg.PS
set_option maxRecDepth 100000
set_option maxHeartbeats 4000000
set_option linter.unusedSimpArgs false
set_option linter.unusedVariables false
variable {m : Int}
theorem sub_intsT {l : List Int} {off n : Nat} : sub (ints l) 1 off n = ints ((l.drop off).take n) := by
  unfold sub ints
  rw [Nat.mul_one, Nat.mul_one, ← List.map_drop, ← List.map_take]
theorem fz_li {r off n : Nat} {t t' : List Int} (h1 : off + n ≤ t.length) (h2 : (t.drop off).take n = t') : Fz r (ints t) (.ref r [] 1 off n) (.list false 1 (ints t')) :=
  .ref _ _ _ _ (by rw [Nat.mul_one, Nat.mul_one, ints_length]; exact h1) (by rw [sub_intsT, ints_frz, h2])
theorem fz_agg2 {r : Nat} {cs : List D} {a b b' : D} (h : Fz r cs b b') : Fz r cs (.agg [a, b]) (.agg [a, b']) :=
  .agg _ _ rfl (fun i d d' hd hd' => by
    match i, hd, hd' with
    | 0, hd, hd' => simp at hd hd'; subst hd; subst hd'; exact .rfl _
    | 1, hd, hd' => simp at hd hd'; subst hd; subst hd'; exact h
    | i + 2, hd, hd' => simp at hd)
theorem fz_se {r off n : Nat} {t t' : List Int} (h1 : off + n ≤ t.length) (h2 : (t.drop off).take n = t') {x : D} : Fz r (ints t) (.agg [x, .ref r [] 1 off n]) (.agg [x, .list false 1 (ints t')]) := fz_agg2 (fz_li h1 h2)
abbrev seF (m : Int) (l : List Int) : D := .agg [dint m, .list false 1 (ints l)]
theorem c_l01Number (o : Bool) (l : List Nat) (hb : ∀ b ∈ l, b < 256) (hl : l.length ≤ 4611686018427387904) (a : Nat) (ha : a ≤ l.length) (hs : Int) (n : Int) (hn : -5 ≤ n ∧ n ≤ 1099511627776) :
    CallsTo Tryz.prog 196 2 [.ptr 1 [] 0, dint n] [none, some (srcR o l a hs)]
      (fun d rt => ∃ (x : Int) (a' : Nat) (h' : Int), (-4611686018427387904 ≤ x ∧ x ≤ 1099511627776) ∧ a' ≤ l.length ∧ d = dint x ∧ rt = [none, some (srcR o l a' h')]) := by
  refine callsTo_of Tryz.tabOk mixOrd 2 _ Tryz.func196 rfl rfl ?_
  conv => whnf
  repeat' first | (refine borA [1] (c_l01Next o l hb hl a ha hs 24) (fun d rt' hd => ?_)) | ((first | refine z0 ?_ | refine Alt.snd (And.intro (show mixOk _ _ = true by decide +kernel) ?_) | refine And.intro (show (_ : List (Option Root))[_]? = _ from rfl) ?_ | (refine And.intro (fun h => ?_) (fun h => ?_) <;> (try simp only [cnt1, ints_length] at h)) | refine zS ?_ | refine zV ?_ | (apply zI; refine zP vObt ?_) | (apply zI; refine zP vObx ?_) | refine zA ?_ | refine Alt.fst ?_ | refine Or.inl ?_) <;> conv => whnf) | fail
  obtain ⟨x, a1, h1, hx, ha1, rfl, rfl⟩ := hd
  refine ⟨rfl, by simp, ?_⟩
  conv => whnf
  have hx2 := hx.2 (by omega)
  repeat' first | (refine borA [1, 2] (c_l01Pick o l hb hl a1 ha1 h1 [-1, n, 1099511627776, -4611686018427387904] (by simp)) (fun d rt' hd => ?_)) | (refine borA [1] (c_l01Next o l hb hl a1 ha1 h1 n) (fun d rt' hd => ?_)) | ((first | refine z0 ?_ | refine Alt.snd (And.intro (show mixOk _ _ = true by decide +kernel) ?_) | refine And.intro (show (_ : List (Option Root))[_]? = _ from rfl) ?_ | (refine And.intro (fun h => ?_) (fun h => ?_) <;> (try simp only [cnt1, ints_length] at h)) | refine zS ?_ | refine zV ?_ | (apply zI; refine zP vObt ?_) | (apply zI; refine zP vObx ?_) | refine zA ?_ | refine Alt.fst ?_ | refine Or.inl ?_) <;> conv => whnf) | fail
  · obtain ⟨y, a2, h2, hy, ha2, rfl, rfl⟩ := hd
    refine ⟨rfl, by simp, ?_⟩
    conv => whnf
    repeat' first | ((first | refine z0 ?_ | (refine And.intro (fun h => ?_) (fun h => ?_) <;> (try simp only [cnt1, ints_length] at h)) | refine zS ?_ | refine zV ?_ | (apply zI; refine zP vObt ?_) | (apply zI; refine zP vObx ?_) | refine zA ?_ | refine Alt.fst ?_ | refine Or.inl ?_) <;> conv => whnf) | fail
    have hy2 : -4611686018427387904 ≤ y ∧ y ≤ 1099511627776 := by
      simp only [List.mem_cons, List.not_mem_nil, or_false] at hy
      omega
    refine ⟨dint y, [none, some (srcR o l a2 h2)], ⟨y, a2, h2, hy2, ha2, rfl, rfl⟩, Weak.of (kp := 2) [none, some 1] ?_⟩
    conv => whnf
    repeat' ((first | refine z1 ?_ | refine z2 ?_ | refine zV ?_ | refine And.intro ?_ ?_ | exact trivial) <;> try (conv => whnf))
  · obtain ⟨y, a2, h2, hy, ha2, rfl, rfl⟩ := hd
    refine ⟨rfl, by simp, ?_⟩
    conv => whnf
    have hy2 : -4611686018427387904 ≤ y ∧ y ≤ 1099511627776 := by
      rcases Int.lt_or_le n 1 with h9 | h9
      · have := hy.1 h9; omega
      · have := hy.2 h9; omega
    repeat' first | ((first | refine z0 ?_ | (refine And.intro (fun h => ?_) (fun h => ?_) <;> (try simp only [cnt1, ints_length] at h)) | refine zS ?_ | refine zV ?_ | (apply zI; refine zP vObt ?_) | (apply zI; refine zP vObx ?_) | refine zA ?_ | refine Alt.fst ?_ | refine Or.inl ?_) <;> conv => whnf) | fail
    refine ⟨dint y, [none, some (srcR o l a2 h2)], ⟨y, a2, h2, hy2, ha2, rfl, rfl⟩, Weak.of (kp := 2) [none, some 1] ?_⟩
    conv => whnf
    repeat' ((first | refine z1 ?_ | refine z2 ?_ | refine zV ?_ | refine And.intro ?_ ?_ | exact trivial) <;> try (conv => whnf))
theorem c_l02Draw (o : Bool) (l : List Nat) (hb : ∀ b ∈ l, b < 256) (hl : l.length ≤ 4611686018427387904) (a : Nat) (ha : a ≤ l.length) (hs : Int) :
    CallsTo Tryz.prog 428 2 [.ptr 1 [] 0] [none, some (srcR o l a hs)]
      (fun d rt => ∃ (m : Int) (n : Nat) (us : List Int) (a' : Nat) (h' : Int), (2 ≤ m ∧ m ≤ 10000) ∧ (2 ≤ n ∧ n ≤ 11) ∧ us.length = n ∧ a' ≤ l.length ∧ d = .agg [dint m, .ref 2 [] 1 0 n] ∧ rt = [none, some (srcR o l a' h'), some ⟨false, 1, ints us⟩]) := by
  refine callsTo_of Tryz.tabOk mixOrd 2 _ Tryz.func428 rfl rfl ?_
  conv => whnf
  repeat' first | (refine borA [1] (c_l01DrawModulus o l hb hl a ha hs) (fun d rt' hd => ?_)) | ((first | refine z0 ?_ | refine Alt.snd (And.intro (show mixOk _ _ = true by decide +kernel) ?_) | refine And.intro (show (_ : List (Option Root))[_]? = _ from rfl) ?_ | (refine And.intro (fun h => ?_) (fun h => ?_) <;> (try simp only [cnt1, ints_length] at h)) | refine zS ?_ | refine zV ?_ | (apply zI; refine zP vObt ?_) | (apply zI; refine zP vObx ?_) | refine zA ?_ | refine Alt.fst ?_ | refine Or.inl ?_) <;> conv => whnf) | fail
  obtain ⟨m, a1, h1, hm0, ha1, rfl, rfl⟩ := hd
  refine ⟨rfl, by simp, ?_⟩
  conv => whnf
  repeat' first | (refine borA [1] (c_l01Next o l hb hl a1 ha1 h1 4) (fun d rt' hd => ?_)) | ((first | refine z0 ?_ | refine Alt.snd (And.intro (show mixOk _ _ = true by decide +kernel) ?_) | refine And.intro (show (_ : List (Option Root))[_]? = _ from rfl) ?_ | (refine And.intro (fun h => ?_) (fun h => ?_) <;> (try simp only [cnt1, ints_length] at h)) | refine zS ?_ | refine zV ?_ | (apply zI; refine zP vObt ?_) | (apply zI; refine zP vObx ?_) | refine zA ?_ | refine Alt.fst ?_ | refine Or.inl ?_) <;> conv => whnf) | fail
  obtain ⟨x, a2, h2, hx, ha2, rfl, rfl⟩ := hd
  refine ⟨rfl, by simp, ?_⟩
  conv => whnf
  have hx2 := hx.2 (by omega)
  repeat' first | (refine borA [1] (c_l01Next o l hb hl a2 ha2 h2 6) (fun d rt' hd => ?_)) | ((first | refine z0 ?_ | refine Alt.snd (And.intro (show mixOk _ _ = true by decide +kernel) ?_) | refine And.intro (show (_ : List (Option Root))[_]? = _ from rfl) ?_ | (refine And.intro (fun h => ?_) (fun h => ?_) <;> (try simp only [cnt1, ints_length] at h)) | refine zS ?_ | refine zV ?_ | (apply zI; refine zP vObt ?_) | (apply zI; refine zP vObx ?_) | refine zA ?_ | refine Alt.fst ?_ | refine Or.inl ?_) <;> conv => whnf) | fail
  obtain ⟨y, a3, h3, hy, ha3, rfl, rfl⟩ := hd
  refine ⟨rfl, by simp, ?_⟩
  conv => whnf
  have hy2 := hy.2 (by omega)
  repeat' first | (refine borA [1] (c_l01Next o l hb hl a3 ha3 h3 10) (fun d rt' hd => ?_)) | ((first | refine z0 ?_ | refine Alt.snd (And.intro (show mixOk _ _ = true by decide +kernel) ?_) | refine And.intro (show (_ : List (Option Root))[_]? = _ from rfl) ?_ | (refine And.intro (fun h => ?_) (fun h => ?_) <;> (try simp only [cnt1, ints_length] at h)) | refine zS ?_ | refine zV ?_ | (apply zI; refine zP vObt ?_) | (apply zI; refine zP vObx ?_) | refine zA ?_ | refine Alt.fst ?_ | refine Or.inl ?_) <;> conv => whnf) | fail
  obtain ⟨z, a4, h4, hz, ha4, rfl, rfl⟩ := hd
  refine ⟨rfl, by simp, ?_⟩
  conv => whnf
  have hz2 := hz.2 (by omega)
  repeat' first | (refine borA [1, 2] (c_l01Pick o l hb hl a4 ha4 h4 [x, y, z] (by simp)) (fun d rt' hd => ?_)) | (refine borA [1, 3] (c_l01Pick o l hb hl a4 ha4 h4 [x, y, z] (by simp)) (fun d rt' hd => ?_)) | (refine borA [1, 4] (c_l01Pick o l hb hl a4 ha4 h4 [x, y, z] (by simp)) (fun d rt' hd => ?_)) | (refine borA [1, 5] (c_l01Pick o l hb hl a4 ha4 h4 [x, y, z] (by simp)) (fun d rt' hd => ?_)) | (refine borA [1, 6] (c_l01Pick o l hb hl a4 ha4 h4 [x, y, z] (by simp)) (fun d rt' hd => ?_)) | (refine borA [1, 7] (c_l01Pick o l hb hl a4 ha4 h4 [x, y, z] (by simp)) (fun d rt' hd => ?_)) | ((first | refine z0 ?_ | refine Alt.snd (And.intro (show mixOk _ _ = true by decide +kernel) ?_) | refine And.intro (show (_ : List (Option Root))[_]? = _ from rfl) ?_ | (refine And.intro (fun h => ?_) (fun h => ?_) <;> (try simp only [cnt1, ints_length] at h)) | refine zS ?_ | refine zV ?_ | (apply zI; refine zP vObt ?_) | (apply zI; refine zP vObx ?_) | refine zA ?_ | refine Alt.fst ?_ | refine Or.inl ?_) <;> conv => whnf) | fail
  obtain ⟨v, a5, h5, hv, ha5, rfl, rfl⟩ := hd
  refine ⟨rfl, by simp, ?_⟩
  conv => whnf
  have hv2 : 0 ≤ v ∧ v ≤ 9 := by
    simp only [List.mem_cons, List.not_mem_nil, or_false] at hv
    omega
  repeat' first | (refine borA [1] (c_l01List o l hb hl a5 ha5 h5 m (by omega) (2 + v) (by omega)) (fun d rt' hd => ?_)) | ((first | refine z0 ?_ | refine Alt.snd (And.intro (show mixOk _ _ = true by decide +kernel) ?_) | refine And.intro (show (_ : List (Option Root))[_]? = _ from rfl) ?_ | (refine And.intro (fun h => ?_) (fun h => ?_) <;> (try simp only [cnt1, ints_length] at h)) | refine zS ?_ | refine zV ?_ | (apply zI; refine zP vObt ?_) | (apply zI; refine zP vObx ?_) | refine zA ?_ | refine And.intro ((inR64 (by omega) (by omega))) ?_ | refine Alt.fst ?_ | refine Or.inl ?_) <;> conv => whnf) | fail
  obtain ⟨us, a6, h6, hu, ha6, rfl, rfl⟩ := hd
  refine ⟨rfl, by simp, ?_⟩
  conv => whnf
  repeat' first | ((first | refine z0 ?_ | refine Alt.snd (And.intro (show mixOk _ _ = true by decide +kernel) ?_) | refine And.intro (show (_ : List (Option Root))[_]? = _ from rfl) ?_ | refine Or.inl (Or.inr (And.intro (mk_l02Make) ?_)) | refine Or.inr (And.intro (mk_l02Make) ?_) | (refine And.intro (fun h => ?_) (fun h => ?_) <;> (try simp only [cnt1, ints_length] at h)) | refine zS ?_ | refine zV ?_ | (apply zI; refine zP vObt ?_) | (apply zI; refine zP vObx ?_) | refine zA ?_ | refine Alt.fst ?_ | refine Or.inl ?_) <;> conv => whnf) | fail
  first
    | (refine ⟨.agg [dint m, .ref 2 [] 1 0 (2 + v).toNat], [none, some (srcR o l a6 h6), some ⟨false, 1, ints us⟩], ⟨m, (2 + v).toNat, us, a6, h6, hm0, by omega, hu, ha6, rfl, rfl⟩, wkA (kp := 2) [none, some 1, some 4]⟩)
    | (refine ⟨.agg [dint m, .ref 2 [] 1 0 (2 + v).toNat], [none, some (srcR o l a6 h6), some ⟨false, 1, ints us⟩], ⟨m, (2 + v).toNat, us, a6, h6, hm0, by omega, hu, ha6, rfl, rfl⟩, wkA (kp := 2) [none, some 1, some 3]⟩)
    | (refine ⟨.agg [dint m, .ref 2 [] 1 0 (2 + v).toNat], [none, some (srcR o l a6 h6), some ⟨false, 1, ints us⟩], ⟨m, (2 + v).toNat, us, a6, h6, hm0, by omega, hu, ha6, rfl, rfl⟩, wkA (kp := 2) [none, some 1, some 5]⟩)
theorem c_l02Spoil (o : Bool) (l : List Nat) (hb : ∀ b ∈ l, b < 256) (hl : l.length ≤ 4611686018427387904) (a : Nat) (ha : a ≤ l.length) (hs : Int) :
    CallsTo Tryz.prog 351 2 [.ptr 1 [] 0] [none, some (srcR o l a hs)]
      (fun d rt => ∃ (m : Int) (n : Nat) (us : List Int) (a' : Nat) (h' : Int), (0 ≤ m ∧ m ≤ 10001) ∧ (1 ≤ n ∧ n ≤ 21) ∧ (n ≤ us.length ∧ us.length ≤ 21) ∧ a' ≤ l.length ∧ d = .agg [dint m, .ref 2 [] 1 0 n] ∧ rt = [none, some (srcR o l a' h'), some ⟨false, 1, ints us⟩]) := by
  refine callsTo_of Tryz.tabOk mixOrd 2 _ Tryz.func351 rfl rfl ?_
  conv => whnf
  repeat' first | (refine borA [1] (c_l02Draw o l hb hl a ha hs) (fun d rt' hd => ?_)) | ((first | refine z0 ?_ | (refine And.intro (fun h => ?_) (fun h => ?_) <;> (try simp only [cnt1, ints_length] at h)) | refine zS ?_ | refine zV ?_ | (apply zI; refine zP vObt ?_) | (apply zI; refine zP vObx ?_) | refine zA ?_ | refine Alt.fst ?_ | refine Or.inl ?_) <;> conv => whnf) | fail
  obtain ⟨m, n, us, a1, h1, hm, hn, hu, ha1, rfl, rfl⟩ := hd
  refine ⟨rfl, by simp, ?_⟩
  conv => whnf
  repeat' first | (refine borA [1] (c_l01Next o l hb hl a1 ha1 h1 30) (fun d rt' hd => ?_)) | ((first | refine z0 ?_ | (refine And.intro (fun h => ?_) (fun h => ?_) <;> (try simp only [cnt1, ints_length] at h)) | refine zS ?_ | refine zV ?_ | (apply zI; refine zP vObt ?_) | (apply zI; refine zP vObx ?_) | refine zA ?_ | refine Alt.fst ?_ | refine Or.inl ?_) <;> conv => whnf) | fail
  obtain ⟨x, a2, h2, hx, ha2, rfl, rfl⟩ := hd
  refine ⟨rfl, by simp, ?_⟩
  conv => whnf
  have hx2 := hx.2 (by omega)
  repeat' first | (refine borA [1, 2] (c_l01Pick o l hb hl a2 ha2 h2 [0, 1, 10001, 2] (by simp)) (fun d rt' hd => ?_)) | (refine borA [1, 3] (c_l01Pick o l hb hl a2 ha2 h2 [0, 1, 10001, 2] (by simp)) (fun d rt' hd => ?_)) | (refine borA [1, 4] (c_l01Pick o l hb hl a2 ha2 h2 [0, 1, 10001, 2] (by simp)) (fun d rt' hd => ?_)) | (refine borA [1, 5] (c_l01Pick o l hb hl a2 ha2 h2 [0, 1, 10001, 2] (by simp)) (fun d rt' hd => ?_)) | (refine borA [1, 6] (c_l01Pick o l hb hl a2 ha2 h2 [0, 1, 10001, 2] (by simp)) (fun d rt' hd => ?_)) | (refine borA [1, 7] (c_l01Pick o l hb hl a2 ha2 h2 [0, 1, 10001, 2] (by simp)) (fun d rt' hd => ?_)) | (refine borA [1, 8] (c_l01Pick o l hb hl a2 ha2 h2 [0, 1, 10001, 2] (by simp)) (fun d rt' hd => ?_)) | (refine borA [1, 2] (c_l01Pick o l hb hl a2 ha2 h2 [-1, m, 1099511627776] (by simp)) (fun d rt' hd => ?_)) | (refine borA [1, 3] (c_l01Pick o l hb hl a2 ha2 h2 [-1, m, 1099511627776] (by simp)) (fun d rt' hd => ?_)) | (refine borA [1, 4] (c_l01Pick o l hb hl a2 ha2 h2 [-1, m, 1099511627776] (by simp)) (fun d rt' hd => ?_)) | (refine borA [1, 5] (c_l01Pick o l hb hl a2 ha2 h2 [-1, m, 1099511627776] (by simp)) (fun d rt' hd => ?_)) | (refine borA [1, 6] (c_l01Pick o l hb hl a2 ha2 h2 [-1, m, 1099511627776] (by simp)) (fun d rt' hd => ?_)) | (refine borA [1, 7] (c_l01Pick o l hb hl a2 ha2 h2 [-1, m, 1099511627776] (by simp)) (fun d rt' hd => ?_)) | (refine borA [1, 8] (c_l01Pick o l hb hl a2 ha2 h2 [-1, m, 1099511627776] (by simp)) (fun d rt' hd => ?_)) | ((first | refine z0 ?_ | refine Alt.snd (And.intro (show mixOk _ _ = true by decide +kernel) ?_) | refine And.intro (show (_ : List (Option Root))[_]? = _ from rfl) ?_ | (refine And.intro (fun h => ?_) (fun h => ?_) <;> (try simp only [cnt1, ints_length, rows_length, Tb_length, L_length, byts_length] at h) <;> first | (exfalso; first | omega | exact h trivial | (cases h; done)) | skip) | refine zS ?_ | refine zV ?_ | (apply zI; refine zP vObt ?_) | (apply zI; refine zP vObx ?_) | refine zA ?_ | refine And.intro (ints_plain _) ?_ | (refine And.intro (⟨by simp; omega, by decide, (by show (n + 10) * 8 ≤ 140737488355328; omega), (by show n + 10 ≤ 140737488355328; omega)⟩) ?_) | refine Alt.fst ?_ | refine Or.inl ?_) <;> conv => whnf) | fail
  · obtain ⟨y, a3, h3, hy, ha3, rfl, rfl⟩ := hd
    refine ⟨rfl, by simp, ?_⟩
    conv => whnf
    have hy2 : 0 ≤ y ∧ y ≤ 10001 := by
      simp only [List.mem_cons, List.not_mem_nil, or_false] at hy
      omega
    repeat' first | ((first | refine z0 ?_ | refine Alt.snd (And.intro (show mixOk _ _ = true by decide +kernel) ?_) | refine And.intro (show (_ : List (Option Root))[_]? = _ from rfl) ?_ | (refine And.intro (fun h => ?_) (fun h => ?_) <;> (try simp only [cnt1, ints_length, rows_length, Tb_length, L_length, byts_length] at h) <;> first | (exfalso; first | omega | exact h trivial | (cases h; done)) | skip) | refine zS ?_ | refine zV ?_ | (apply zI; refine zP vObt ?_) | (apply zI; refine zP vObx ?_) | refine zA ?_ | refine Alt.fst ?_ | refine Or.inl ?_) <;> conv => whnf) | fail
    first
      | (refine ⟨.agg [dint y, .ref 2 [] 1 0 n], [none, some (srcR o l a3 h3), some ⟨false, 1, ints us⟩], ⟨y, n, us, a3, h3, hy2, by omega, by omega, ha3, rfl, rfl⟩, wkA (kp := 2) [none, some 1, some 3]⟩)
      | (refine ⟨.agg [dint y, .ref 2 [] 1 0 n], [none, some (srcR o l a3 h3), some ⟨false, 1, ints us⟩], ⟨y, n, us, a3, h3, hy2, by omega, by omega, ha3, rfl, rfl⟩, wkA (kp := 2) [none, some 1, some 2]⟩)
      | (refine ⟨.agg [dint y, .ref 2 [] 1 0 n], [none, some (srcR o l a3 h3), some ⟨false, 1, ints us⟩], ⟨y, n, us, a3, h3, hy2, by omega, by omega, ha3, rfl, rfl⟩, wkA (kp := 2) [none, some 1, some 4]⟩)
  · first
      | (refine ⟨.agg [dint m, .ref 2 [] 1 0 1], [none, some (srcR o l a2 h2), some ⟨false, 1, ints us⟩], ⟨m, 1, us, a2, h2, by omega, by omega, by omega, ha2, rfl, rfl⟩, wkA (kp := 2) [none, some 1, some 3]⟩)
      | (refine ⟨.agg [dint m, .ref 2 [] 1 0 1], [none, some (srcR o l a2 h2), some ⟨false, 1, ints us⟩], ⟨m, 1, us, a2, h2, by omega, by omega, by omega, ha2, rfl, rfl⟩, wkA (kp := 2) [none, some 1, some 2]⟩)
      | (refine ⟨.agg [dint m, .ref 2 [] 1 0 1], [none, some (srcR o l a2 h2), some ⟨false, 1, ints us⟩], ⟨m, 1, us, a2, h2, by omega, by omega, by omega, ha2, rfl, rfl⟩, wkA (kp := 2) [none, some 1, some 4]⟩)
  · refine ⟨.agg [dint m, .ref 2 [] 1 0 (n + 10)], [none, some (srcR o l a2 h2), some ⟨false, 1, ints (us ++ List.replicate 10 0)⟩], ⟨m, n + 10, us ++ List.replicate 10 0, a2, h2, by omega, by omega, by simp; omega, ha2, rfl, rfl⟩, Weak.of (kp := 2) [none, some 1, some 5] ?_⟩
    conv => whnf
    repeat' ((first | refine z1 ?_ | refine z2 ?_ | refine zV ?_ | refine And.intro ?_ ?_ | exact trivial) <;> try (conv => whnf))
    all_goals first | (simp [ints]; done) | (simp [ints]; rfl)
  · obtain ⟨y, a3, h3, hy, ha3, rfl, rfl⟩ := hd
    refine ⟨rfl, by simp, ?_⟩
    conv => whnf
    repeat' first | ((first | refine z0 ?_ | refine Alt.snd (And.intro (show mixOk _ _ = true by decide +kernel) ?_) | refine And.intro (show (_ : List (Option Root))[_]? = _ from rfl) ?_ | (refine And.intro (fun h => ?_) (fun h => ?_) <;> (try simp only [cnt1, ints_length, rows_length, Tb_length, L_length, byts_length] at h) <;> first | (exfalso; first | omega | exact h trivial | (cases h; done)) | skip) | refine zS ?_ | refine zV ?_ | (apply zI; refine zP vObt ?_) | (apply zI; refine zP vObx ?_) | refine zA ?_ | refine And.intro (ints_plain _) ?_ | refine Alt.fst ?_ | refine Or.inl ?_) <;> conv => whnf) | fail
    first
      | (refine ⟨.agg [dint m, .ref 2 [] 1 0 n], [none, some (srcR o l a3 h3), some ⟨false, 1, ints (us.set 0 y)⟩], ⟨m, n, us.set 0 y, a3, h3, by omega, by omega, by simp; omega, ha3, rfl, rfl⟩, wkA (kp := 2) [none, some 1, some 3]⟩)
      | (refine ⟨.agg [dint m, .ref 2 [] 1 0 n], [none, some (srcR o l a3 h3), some ⟨false, 1, ints (us.set 0 y)⟩], ⟨m, n, us.set 0 y, a3, h3, by omega, by omega, by simp; omega, ha3, rfl, rfl⟩, wkA (kp := 2) [none, some 1, some 2]⟩)
      | (refine ⟨.agg [dint m, .ref 2 [] 1 0 n], [none, some (srcR o l a3 h3), some ⟨false, 1, ints (us.set 0 y)⟩], ⟨m, n, us.set 0 y, a3, h3, by omega, by omega, by simp; omega, ha3, rfl, rfl⟩, wkA (kp := 2) [none, some 1, some 4]⟩)
  · first
      | (refine ⟨.agg [dint m, .ref 2 [] 1 0 n], [none, some (srcR o l a2 h2), some ⟨false, 1, ints us⟩], ⟨m, n, us, a2, h2, by omega, by omega, by omega, ha2, rfl, rfl⟩, wkA (kp := 2) [none, some 1, some 3]⟩)
      | (refine ⟨.agg [dint m, .ref 2 [] 1 0 n], [none, some (srcR o l a2 h2), some ⟨false, 1, ints us⟩], ⟨m, n, us, a2, h2, by omega, by omega, by omega, ha2, rfl, rfl⟩, wkA (kp := 2) [none, some 1, some 2]⟩)
      | (refine ⟨.agg [dint m, .ref 2 [] 1 0 n], [none, some (srcR o l a2 h2), some ⟨false, 1, ints us⟩], ⟨m, n, us, a2, h2, by omega, by omega, by omega, ha2, rfl, rfl⟩, wkA (kp := 2) [none, some 1, some 4]⟩)
end Go.Proofs

