/- Two planes drawn, mostly laws that agree up to a degree. -/
-- tables
-- rec
import Derived.Test.YtocnfkphpmolkaaGreatK133
import Derived.Test.YtocnfkphpmolkaaGreatK30
import Derived.Test.YtocnfkphpmolkaaGreatK132
namespace Go.Proofs
open Go Go.Vm Go.Fg Go.Fg.PS
set_option maxRecDepth 100000
set_option maxHeartbeats 4000000
set_option linter.unusedSimpArgs false
set_option linter.unusedVariables false
variable {m : Int}
abbrev plF (m : Int) (t : List (List Int)) : D := .agg [dint m, .list false 1 (rows false t)]
def cutS (b : PS (Zm m)) (i : Nat) : PS (Zm m) := ⟨fun j => if 2 ≤ j ∧ j < i then 0 else b.c j⟩
theorem cutS_two {n : Nat} (b : PS (Zm m)) : L n (cutS b 2) = L n b := L_congr (fun j hj => by
  show (if _ then _ else _) = _
  rw [if_neg (by omega)])
theorem cutS_upd {n i : Nat} (b : PS (Zm m)) (hi : 2 ≤ i) : Ag n ((cutS b i).upd i 0) (cutS b (i + 1)) := fun j hj => by
  show (if j = i then 0 else if 2 ≤ j ∧ j < i then 0 else b.c j) = if 2 ≤ j ∧ j < i + 1 then 0 else b.c j
  by_cases h : j = i
  · rw [if_pos h, if_pos (by omega)]
  · rw [if_neg h]
    by_cases h3 : 2 ≤ j ∧ j < i
    · rw [if_pos h3, if_pos (by omega)]
    · rw [if_neg h3, if_neg (by omega)]
theorem fz_tup2 {r : Nat} {cs : List D} {a a' b b' : D} (h1 : Fz r cs a a') (h2 : Fz r cs b b') : Fz r cs (.tup [a, b]) (.tup [a', b']) :=
  .tup _ _ rfl (fun i d d' hd hd' => by
    match i, hd, hd' with
    | 0, hd, hd' => simp at hd hd'; subst hd; subst hd'; exact h1
    | 1, hd, hd' => simp at hd hd'; subst hd; subst hd'; exact h2
    | i + 2, hd, hd' => simp at hd)
theorem c_DrawAgreementOf (hW : Wei) (o : Bool) (l : List Nat) (hb : ∀ b ∈ l, b < 256) (hl : l.length ≤ 4611686018427387904) :
    CallsTo Tryz.prog 111 1 [.list o 1 (byts l)] [none]
      (fun d rt => ∃ (m : Int) (t : List (List Int)) (m' : Int) (t' : List (List Int)), ((1 ≤ m ∧ m ≤ 10001) ∧ smT t) ∧ ((1 ≤ m' ∧ m' ≤ 10001) ∧ smT t') ∧ d = .tup [plF m t, plF m' t'] ∧ rt = [none]) := by
  refine callsTo_of Tryz.tabOk mixOrd 1 _ Tryz.func111 rfl rfl ?_
  conv => whnf
  repeat' first | (refine bor_of [] (c_l01From o l hb hl) (by decide) ?_ (fun d rt' hd => ?_); (focus ((conv => whnf); (repeat' ((first | refine And.intro rfl ?_ | refine And.intro (eqV_int vAr) ?_ | refine And.intro vOb ?_ | exact trivial) <;> (conv => whnf))); done))) | ((first | refine And.intro (Or.inl rfl) ?_ | (refine And.intro (fun h => ?_) (fun h => ?_) <;> (try simp only [cnt1, ints_length] at h)) | refine And.intro (show slotsOk _ = true by decide +kernel) ?_ | refine And.intro vOb ?_ | (apply Exists.intro; refine And.intro vObt ?_) | (apply Exists.intro; refine And.intro vObx ?_) | refine And.intro vArT ?_ | refine Alt.fst ?_ | refine Or.inl ?_) <;> conv => whnf) | fail
  obtain ⟨h0, rfl, rfl⟩ := hd
  refine ⟨rfl, by simp, ?_⟩
  conv => whnf
  repeat' first | (refine bor_of [3] (c_l04Spoil hW o l hb hl 0 (by omega) h0) (by decide) ?_ (fun d rt' hd => ?_); (focus ((conv => whnf); (repeat' ((first | refine And.intro rfl ?_ | refine And.intro (eqV_int vAr) ?_ | refine And.intro vOb ?_ | exact trivial) <;> (conv => whnf))); done))) | ((first | refine And.intro (Or.inl rfl) ?_ | (refine And.intro (fun h => ?_) (fun h => ?_) <;> (try simp only [cnt1, ints_length] at h)) | refine And.intro (show slotsOk _ = true by decide +kernel) ?_ | refine And.intro vOb ?_ | (apply Exists.intro; refine And.intro vObt ?_) | (apply Exists.intro; refine And.intro vObx ?_) | refine And.intro vArT ?_ | refine Alt.fst ?_ | refine Or.inl ?_) <;> conv => whnf) | fail
  obtain ⟨m, t, a1, h1, hm, ht, ha1, rfl, rfl⟩ := hd
  refine ⟨rfl, by simp, ?_⟩
  conv => whnf
  have ht2 := smT_lens ht
  have hBc := c_l04Is false false m t ht2.1 ht2.2
  cases hB : lawB m t with
  | false =>
    rw [hB] at hBc
    repeat' first | ((exfalso; cases (by assumption : false = true))) | (refine bor_of [3] (c_l04Spoil hW o l hb hl a1 ha1 h1) (by decide) ?_ (fun d rt' hd => ?_); (focus ((conv => whnf); (repeat' ((first | refine And.intro rfl ?_ | refine And.intro (eqV_int vAr) ?_ | refine And.intro vOb ?_ | exact trivial) <;> (conv => whnf))); done))) | ((first | refine And.intro (Or.inl rfl) ?_ | (apply Exists.intro; refine And.intro (hBc) ?_) | refine Alt.snd (And.intro (show mixOk _ _ = true by decide +kernel) ?_) | refine And.intro (show (_ : List (Option Root))[_]? = _ from rfl) ?_ | (refine And.intro (fun h => ?_) (fun h => ?_) <;> (try simp only [cnt1, ints_length] at h)) | refine And.intro (show slotsOk _ = true by decide +kernel) ?_ | refine And.intro vOb ?_ | (apply Exists.intro; refine And.intro vObt ?_) | (apply Exists.intro; refine And.intro vObx ?_) | refine And.intro vArT ?_ | refine Alt.fst ?_ | refine Or.inl ?_) <;> conv => whnf) | fail
    obtain ⟨m', t', a2, h2, hm', ht', ha2, rfl, rfl⟩ := hd
    refine ⟨rfl, by simp, ?_⟩
    conv => whnf
    repeat' first | ((first | refine And.intro (Or.inl rfl) ?_ | refine Alt.snd (And.intro (show mixOk _ _ = true by decide +kernel) ?_) | refine And.intro (show (_ : List (Option Root))[_]? = _ from rfl) ?_ | (refine And.intro (fun h => ?_) (fun h => ?_) <;> (try simp only [cnt1, ints_length] at h)) | refine And.intro (show slotsOk _ = true by decide +kernel) ?_ | refine And.intro vOb ?_ | (apply Exists.intro; refine And.intro vObt ?_) | (apply Exists.intro; refine And.intro vObx ?_) | refine And.intro vArT ?_ | refine Alt.fst ?_ | refine Or.inl ?_) <;> conv => whnf) | fail
    refine ⟨.tup [plF m t, plF m' t'], [none], ⟨m, t, m', t', ⟨hm, ht⟩, ⟨hm', ht'⟩, rfl, rfl⟩, Weak.of (kp := 1) [none] ?_⟩
    conv => whnf
    repeat' ((first | refine And.intro rfl ?_ | refine And.intro (eqV_int vAr) ?_ | refine And.intro vOb ?_ | refine And.intro ?_ ?_ | exact trivial) <;> try (conv => whnf))
  | true =>
    rw [hB] at hBc
    have hpl := plB_md (lawB_two hB).1
    obtain ⟨hmd, hn1, hn2, _⟩ := hpl
    have e := plB_T (lawB_two hB).1
    generalize hF : rd2 m t = F at e
    generalize hN : t.length = n at e hn1 hn2
    subst e
    have hm1 := hmd.1
    have hm2 := hmd.2
    repeat' first | ((exfalso; cases (by assumption : true = false))) | (refine bor_of [3] (c_l01Next o l hb hl a1 ha1 h1 4) (by decide) ?_ (fun d rt' hd => ?_); (focus ((conv => whnf); (repeat' ((first | refine And.intro rfl ?_ | refine And.intro (eqV_int vAr) ?_ | refine And.intro vOb ?_ | exact trivial) <;> (conv => whnf))); done))) | ((first | refine And.intro (Or.inl rfl) ?_ | (apply Exists.intro; refine And.intro (hBc) ?_) | (refine And.intro (fun h => ?_) (fun h => ?_) <;> (try simp only [cnt1, ints_length] at h)) | refine And.intro (show slotsOk _ = true by decide +kernel) ?_ | refine And.intro vOb ?_ | (apply Exists.intro; refine And.intro vObt ?_) | (apply Exists.intro; refine And.intro vObx ?_) | refine And.intro vArT ?_ | refine Alt.fst ?_ | refine Or.inl ?_) <;> conv => whnf) | fail
    obtain ⟨x, a2, h2, hx, ha2, rfl, rfl⟩ := hd
    refine ⟨rfl, by simp, ?_⟩
    conv => whnf
    have hx2 := hx.2 (by omega)
    repeat' first | (refine bor_of [3] (c_l04DrawCurve hmd o l hb hl a2 ha2 h2 n ⟨hn1, hn2⟩ (d := (n : Int) - 1) (by omega)) (by decide) ?_ (fun d rt' hd => ?_); (focus ((conv => whnf); (repeat' ((first | refine And.intro rfl ?_ | refine And.intro (eqV_int vAr) ?_ | refine And.intro vOb ?_ | exact trivial) <;> (conv => whnf))); done))) | (refine bor_of [3] (c_l04Spoil hW o l hb hl a2 ha2 h2) (by decide) ?_ (fun d rt' hd => ?_); (focus ((conv => whnf); (repeat' ((first | refine And.intro rfl ?_ | refine And.intro (eqV_int vAr) ?_ | refine And.intro vOb ?_ | exact trivial) <;> (conv => whnf))); done))) | ((first | refine And.intro (Or.inl rfl) ?_ | refine Alt.snd (And.intro (show mixOk _ _ = true by decide +kernel) ?_) | refine And.intro (show (_ : List (Option Root))[_]? = _ from rfl) ?_ | (refine And.intro (fun h => ?_) (fun h => ?_) <;> (try simp only [cnt1, ints_length] at h) <;> first | (exfalso; omega) | skip) | refine And.intro (show slotsOk _ = true by decide +kernel) ?_ | refine And.intro vOb ?_ | (apply Exists.intro; refine And.intro vObt ?_) | (apply Exists.intro; refine And.intro vObx ?_) | refine And.intro vArT ?_ | refine Alt.fst ?_ | refine Or.inl ?_) <;> conv => whnf) | fail
    · obtain ⟨b, a3, h3, hb3, ha3, rfl, rfl⟩ := hd
      refine ⟨rfl, by simp, ?_⟩
      conv => whnf
      repeat' first | (refine bor_of [3] (c_l01Next o l hb hl a3 ha3 h3 ((n : Int) - 1)) (by decide) ?_ (fun d rt' hd => ?_); (focus ((conv => whnf); (repeat' ((first | refine And.intro rfl ?_ | refine And.intro (eqV_int vAr) ?_ | refine And.intro vOb ?_ | exact trivial) <;> (conv => whnf))); done))) | ((first | refine And.intro (Or.inl rfl) ?_ | (refine And.intro (fun h => ?_) (fun h => ?_) <;> (try simp only [cnt1, ints_length] at h) <;> first | (exfalso; omega) | skip) | refine And.intro (show slotsOk _ = true by decide +kernel) ?_ | refine And.intro vOb ?_ | (apply Exists.intro; refine And.intro vObt ?_) | (apply Exists.intro; refine And.intro vObx ?_) | refine And.intro vArT ?_ | refine Alt.fst ?_ | refine Or.inl ?_) <;> conv => whnf) | fail
      obtain ⟨y, a4, h4, hy, ha4, rfl, rfl⟩ := hd
      refine ⟨rfl, by simp, ?_⟩
      conv => whnf
      have hy2 := hy.2 (by omega)
      repeat' first | ((first | refine And.intro (Or.inl rfl) ?_ | (refine And.intro (fun h => ?_) (fun h => ?_) <;> (try simp only [cnt1, ints_length] at h) <;> first | (exfalso; omega) | skip) | refine And.intro (show slotsOk _ = true by decide +kernel) ?_ | refine And.intro vOb ?_ | (apply Exists.intro; refine And.intro vObt ?_) | (apply Exists.intro; refine And.intro vObx ?_) | refine And.intro vArT ?_ | refine Alt.fst ?_ | refine Or.inl ?_) <;> conv => whnf) | fail
      refine loop_atR Tryz.tabOk mixOrd (α := Nat) (fun i => [(9, dint i)]) (fun i => [(6, some ⟨false, 1, ints (L n (cutS b i))⟩)]) (fun i => 2 ≤ i ∧ i ≤ n) (fun i => n - i) (2) ?_ ?_ ?_
      · omega
      · conv => whnf
        first | refine WeakS.autoR ?_ | refine Weak.autoR ?_
        conv => whnf
        repeat' ((first | refine And.intro rfl ?_ | refine And.intro (eqV_int vAr) ?_ | refine And.intro vOb ?_ | refine And.intro vRepl ?_ | refine And.intro vReplL ?_ | refine And.intro ?_ ?_ | exact trivial) <;> try (conv => whnf))
        all_goals first | exact ints_congr' (cutS_two b).symm
      intro i hi
      conv => whnf
      repeat' first | ((first | refine And.intro (Or.inl rfl) ?_ | (apply Exists.intro; refine And.intro (c_l06Conjugate hmd _ _ _ n ⟨hn1, hn2⟩ F (cutS b i)) ?_) | refine Or.inl (Or.inr (And.intro (mk_l03Make) ?_)) | refine Or.inr (And.intro (mk_l03Make) ?_) | (refine And.intro (fun h => ?_) (fun h => ?_) <;> (try simp only [cnt1, ints_length, rows_length, Tb_length] at h) <;> first | (exfalso; omega) | skip) | refine And.intro (show slotsOk _ = true by decide +kernel) ?_ | refine And.intro vOb ?_ | (apply Exists.intro; refine And.intro vObt ?_) | (apply Exists.intro; refine And.intro vObx ?_) | refine And.intro vArT ?_ | refine Alt.fst ?_ | refine Or.inl ?_) <;> conv => whnf) | fail
      · refine Exists.intro (i + 1) (And.intro vAr (And.intro vAr ?_))
        first | refine WeakS.autoR ?_ | refine Weak.autoR ?_
        conv => whnf
        repeat' ((first | refine And.intro rfl ?_ | refine And.intro (eqV_int vAr) ?_ | refine And.intro vOb ?_ | refine And.intro vRepl ?_ | refine And.intro vReplL ?_ | refine And.intro ?_ ?_ | exact trivial) <;> try (conv => whnf))
        all_goals first | exact ints_congr' (L_set_eq 0 rfl (cutS_upd b hi.1))
      generalize comp2N (cutS b i) (bI F (rev (invN m ((cutS b i).c 1).val) (cutS b i)) (rev (invN m ((cutS b i).c 1).val) (cutS b i)) n n) 0 n = G
      first
        | (refine ⟨.tup [plF m (Tb n F), plF m (Tb n G)], [none], ⟨m, Tb n F, m, Tb n G, ⟨hm, smT_Tb (by omega) F⟩, ⟨hm, smT_Tb (by omega) G⟩, rfl, rfl⟩, Weak.trans (Weak.freezeR (kp := 1) (r := 7) (s0 := 1) (env' := [.tup [plF m (Tb n F), plF m (Tb n G)]]) rfl rfl (fz_one (fz_tup2 (.rfl _) (fz_pl (by simp [cnt1]) (by rw [List.drop_zero, List.take_of_length_le (by simp [cnt1])]))))) (Weak.of (kp := 1) [none] ?_)⟩
           (conv => whnf)
           repeat' ((first | refine And.intro rfl ?_ | refine And.intro (eqV_int vAr) ?_ | refine And.intro vOb ?_ | refine And.intro ?_ ?_ | exact trivial) <;> try (conv => whnf))
           done)
        | (refine ⟨.tup [plF m (Tb n F), plF m (Tb n G)], [none], ⟨m, Tb n F, m, Tb n G, ⟨hm, smT_Tb (by omega) F⟩, ⟨hm, smT_Tb (by omega) G⟩, rfl, rfl⟩, Weak.trans (Weak.freezeR (kp := 1) (r := 8) (s0 := 1) (env' := [.tup [plF m (Tb n F), plF m (Tb n G)]]) rfl rfl (fz_one (fz_tup2 (.rfl _) (fz_pl (by simp [cnt1]) (by rw [List.drop_zero, List.take_of_length_le (by simp [cnt1])]))))) (Weak.of (kp := 1) [none] ?_)⟩
           (conv => whnf)
           repeat' ((first | refine And.intro rfl ?_ | refine And.intro (eqV_int vAr) ?_ | refine And.intro vOb ?_ | refine And.intro ?_ ?_ | exact trivial) <;> try (conv => whnf))
           done)
        | (refine ⟨.tup [plF m (Tb n F), plF m (Tb n G)], [none], ⟨m, Tb n F, m, Tb n G, ⟨hm, smT_Tb (by omega) F⟩, ⟨hm, smT_Tb (by omega) G⟩, rfl, rfl⟩, Weak.trans (Weak.freezeR (kp := 1) (r := 9) (s0 := 1) (env' := [.tup [plF m (Tb n F), plF m (Tb n G)]]) rfl rfl (fz_one (fz_tup2 (.rfl _) (fz_pl (by simp [cnt1]) (by rw [List.drop_zero, List.take_of_length_le (by simp [cnt1])]))))) (Weak.of (kp := 1) [none] ?_)⟩
           (conv => whnf)
           repeat' ((first | refine And.intro rfl ?_ | refine And.intro (eqV_int vAr) ?_ | refine And.intro vOb ?_ | refine And.intro ?_ ?_ | exact trivial) <;> try (conv => whnf))
           done)
        | (refine ⟨.tup [plF m (Tb n F), plF m (Tb n G)], [none], ⟨m, Tb n F, m, Tb n G, ⟨hm, smT_Tb (by omega) F⟩, ⟨hm, smT_Tb (by omega) G⟩, rfl, rfl⟩, Weak.trans (Weak.freezeR (kp := 1) (r := 10) (s0 := 1) (env' := [.tup [plF m (Tb n F), plF m (Tb n G)]]) rfl rfl (fz_one (fz_tup2 (.rfl _) (fz_pl (by simp [cnt1]) (by rw [List.drop_zero, List.take_of_length_le (by simp [cnt1])]))))) (Weak.of (kp := 1) [none] ?_)⟩
           (conv => whnf)
           repeat' ((first | refine And.intro rfl ?_ | refine And.intro (eqV_int vAr) ?_ | refine And.intro vOb ?_ | refine And.intro ?_ ?_ | exact trivial) <;> try (conv => whnf))
           done)
        | (refine ⟨.tup [plF m (Tb n F), plF m (Tb n G)], [none], ⟨m, Tb n F, m, Tb n G, ⟨hm, smT_Tb (by omega) F⟩, ⟨hm, smT_Tb (by omega) G⟩, rfl, rfl⟩, Weak.trans (Weak.freezeR (kp := 1) (r := 6) (s0 := 1) (env' := [.tup [plF m (Tb n F), plF m (Tb n G)]]) rfl rfl (fz_one (fz_tup2 (.rfl _) (fz_pl (by simp [cnt1]) (by rw [List.drop_zero, List.take_of_length_le (by simp [cnt1])]))))) (Weak.of (kp := 1) [none] ?_)⟩
           (conv => whnf)
           repeat' ((first | refine And.intro rfl ?_ | refine And.intro (eqV_int vAr) ?_ | refine And.intro vOb ?_ | refine And.intro ?_ ?_ | exact trivial) <;> try (conv => whnf))
           done)
    · obtain ⟨m', t', a3, h3, hm', ht', ha3, rfl, rfl⟩ := hd
      refine ⟨rfl, by simp, ?_⟩
      conv => whnf
      repeat' first | ((first | refine And.intro (Or.inl rfl) ?_ | refine Alt.snd (And.intro (show mixOk _ _ = true by decide +kernel) ?_) | refine And.intro (show (_ : List (Option Root))[_]? = _ from rfl) ?_ | (refine And.intro (fun h => ?_) (fun h => ?_) <;> (try simp only [cnt1, ints_length] at h)) | refine And.intro (show slotsOk _ = true by decide +kernel) ?_ | refine And.intro vOb ?_ | (apply Exists.intro; refine And.intro vObt ?_) | (apply Exists.intro; refine And.intro vObx ?_) | refine And.intro vArT ?_ | refine Alt.fst ?_ | refine Or.inl ?_) <;> conv => whnf) | fail
      refine ⟨.tup [plF m (Tb n F), plF m' t'], [none], ⟨m, Tb n F, m', t', ⟨hm, ht⟩, ⟨hm', ht'⟩, rfl, rfl⟩, Weak.of (kp := 1) [none] ?_⟩
      conv => whnf
      repeat' ((first | refine And.intro rfl ?_ | refine And.intro (eqV_int vAr) ?_ | refine And.intro vOb ?_ | refine And.intro ?_ ?_ | exact trivial) <;> try (conv => whnf))
theorem c_DrawFirstDifference (hW : Wei) (o : Bool) (l : List Nat) (hb : ∀ b ∈ l, b < 256) (hl : l.length ≤ 4611686018427387904) :
    CallsTo Tryz.prog 32 1 [.list o 1 (byts l)] [none]
      (fun d rt => ∃ (m : Int) (t : List (List Int)) (m' : Int) (t' : List (List Int)), ((1 ≤ m ∧ m ≤ 10001) ∧ smT t) ∧ ((1 ≤ m' ∧ m' ≤ 10001) ∧ smT t') ∧ d = .tup [plF m t, plF m' t'] ∧ rt = [none]) := by
  refine callsTo_of Tryz.tabOk mixOrd 1 _ Tryz.func32 rfl rfl ?_
  conv => whnf
  repeat' first | (refine bor_of [] (c_DrawAgreementOf hW o l hb hl) (by decide) ?_ (fun d rt' hd => ?_); (focus ((conv => whnf); (repeat' ((first | refine And.intro rfl ?_ | refine And.intro (eqV_int vAr) ?_ | refine And.intro vOb ?_ | exact trivial) <;> (conv => whnf))); done))) | ((first | refine And.intro (Or.inl rfl) ?_ | (refine And.intro (fun h => ?_) (fun h => ?_) <;> (try simp only [cnt1, ints_length] at h)) | refine And.intro (show slotsOk _ = true by decide +kernel) ?_ | refine And.intro vOb ?_ | (apply Exists.intro; refine And.intro vObt ?_) | (apply Exists.intro; refine And.intro vObx ?_) | refine And.intro vArT ?_ | refine Alt.fst ?_ | refine Or.inl ?_) <;> conv => whnf) | fail
  obtain ⟨m, t, m', t', ht, ht', rfl, rfl⟩ := hd
  refine ⟨rfl, by simp, ?_⟩
  conv => whnf
  repeat' first | ((first | refine And.intro (Or.inl rfl) ?_ | (refine And.intro (fun h => ?_) (fun h => ?_) <;> (try simp only [cnt1, ints_length] at h)) | refine And.intro (show slotsOk _ = true by decide +kernel) ?_ | refine And.intro vOb ?_ | (apply Exists.intro; refine And.intro vObt ?_) | (apply Exists.intro; refine And.intro vObx ?_) | refine And.intro vArT ?_ | refine Alt.fst ?_ | refine Or.inl ?_) <;> conv => whnf) | fail
  refine ⟨.tup [plF m t, plF m' t'], [none], ⟨m, t, m', t', ht, ht', rfl, rfl⟩, Weak.of (kp := 1) [none] ?_⟩
  conv => whnf
  repeat' ((first | refine And.intro rfl ?_ | refine And.intro (eqV_int vAr) ?_ | refine And.intro vOb ?_ | refine And.intro ?_ ?_ | exact trivial) <;> try (conv => whnf))
end Go.Proofs

