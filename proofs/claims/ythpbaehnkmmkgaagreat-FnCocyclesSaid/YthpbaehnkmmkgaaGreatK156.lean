/- Draws of planes. -/
-- tables
-- rec
import Derived.Test.YthpbaehnkmmkgaaGreatK149
import Derived.Test.YthpbaehnkmmkgaaGreatK133
namespace Go.Proofs
open Go Go.Vm Go.Fg Go.Fg.PS
set_option maxRecDepth 100000
set_option maxHeartbeats 4000000
set_option linter.unusedSimpArgs false
set_option linter.unusedVariables false
variable {m : Int}
def triP (n : Nat) (t : List (List Int)) : Prop := t.length ≤ n ∧ ∀ i, i < t.length → (t.getD i []).length = n - i
theorem triP_set {n : Nat} {t : List (List Int)} (h : triP n t) (i : Nat) (x : Int) : triP n (t.set i ((t.getD i []).set 0 x)) := by
  refine ⟨by simpa using h.1, fun j hj => ?_⟩
  simp only [List.length_set] at hj
  rw [← h.2 j hj]
  by_cases e : i = j
  · subst e; simp [List.getD_eq_getElem?_getD, hj]
  · simp [List.getD_eq_getElem?_getD, e]
theorem mk_l03MakeW : MakesAgg Tryz.prog 224 := fun m b n c => by
  refine pure_of_vcR Tryz.tabOk mixOrd Tryz.func224 rfl rfl ?_
  conv => whnf
  repeat' first | ((first | refine z0 ?_ | (refine And.intro (fun h => ?_) (fun h => ?_) <;> (try simp only [cnt1, ints_length] at h)) | refine zS ?_ | refine zV ?_ | (apply zI; refine zP vObt ?_) | (apply zI; refine zP vObx ?_) | refine zA ?_ | refine Alt.fst ?_ | refine Or.inl ?_) <;> conv => whnf) | fail
theorem c_l03With (o : Bool) (l : List Nat) (hb : ∀ b ∈ l, b < 256) (hl : l.length ≤ 4611686018427387904) (a : Nat) (ha : a ≤ l.length) (hs : Int) (m : Int) (hm : -5 ≤ m ∧ m ≤ 1099511627776) (n : Nat) (hn : 2 ≤ n ∧ n ≤ 11) {dg : Int} (hdg : dg + 1 = n) :
    CallsTo Tryz.prog 469 2 [.ptr 1 [] 0, dint m, dint dg] [none, some (srcR o l a hs)]
      (fun d rt => ∃ (t : List (List Int)) (a' : Nat) (h' : Int), (triP n t ∧ t.length = n) ∧ a' ≤ l.length ∧ d = .agg [dint m, .ref 2 [] 1 0 n] ∧ rt = [none, some (srcR o l a' h'), some ⟨false, 1, rows true t⟩]) := by
  refine callsTo_of Tryz.tabOk mixOrd 2 _ Tryz.func469 rfl rfl ?_
  conv => whnf
  repeat' first | ((first | refine z0 ?_ | (refine And.intro (fun h => ?_) (fun h => ?_) <;> (try simp only [cnt1, ints_length] at h)) | refine zS ?_ | refine zV ?_ | (apply zI; refine zP vObt ?_) | (apply zI; refine zP vObx ?_) | refine zA ?_ | refine Alt.fst ?_ | refine Or.inl ?_) <;> conv => whnf) | fail
  refine loop_atR Tryz.tabOk mixOrd (α := List (List Int) × Nat × Int) (fun u => [(8, dint u.1.length), (7, .ref 3 [] 1 0 u.1.length), (9, .undef), (10, .undef)]) (fun u => [(1, some (srcR o l u.2.1 u.2.2)), (3, some ⟨false, 1, rows true u.1⟩)]) (fun u => triP n u.1 ∧ u.2.1 ≤ l.length) (fun u => n - u.1.length) (([], a, hs)) ?_ ?_ ?_
  · exact ⟨⟨by simp, fun i hi => by simp at hi⟩, ha⟩
  · conv => whnf
    first | refine WeakS.autoR ?_ | refine Weak.autoR ?_
    conv => whnf
    repeat' ((first | refine z1 ?_ | refine z2 ?_ | refine zV ?_ | refine And.intro vRepl ?_ | refine And.intro vReplL ?_ | refine And.intro ?_ ?_ | exact trivial) <;> try (conv => whnf))
  intro u hu
  obtain ⟨t, a0, h0⟩ := u
  obtain ⟨⟨ht1, ht2⟩, ha0⟩ := hu
  simp only at ht1 ht2 ha0
  conv => whnf
  by_cases hlt : t.length < n
  · repeat' first | (refine borA [1] (c_l01List o l hb hl a0 ha0 h0 m hm (dg - t.length + 1) (by omega)) (fun d rt' hd => ?_)) | ((first | refine z0 ?_ | refine Alt.snd (And.intro (show mixOk _ _ = true by decide +kernel) ?_) | refine And.intro (show (_ : List (Option Root))[_]? = _ from rfl) ?_ | (refine And.intro (fun h => ?_) (fun h => ?_) <;> (try simp only [cnt1, ints_length, rows_length, Tb_length, L_length, byts_length] at h) <;> first | (exfalso; first | omega | exact h trivial | (cases h; done)) | skip) | refine zS ?_ | refine zV ?_ | (apply zI; refine zP vObt ?_) | (apply zI; refine zP vObx ?_) | refine zA ?_ | refine Alt.fst ?_ | refine Or.inl ?_) <;> conv => whnf) | fail
    obtain ⟨us, a1, h1, hus, ha1, rfl, rfl⟩ := hd
    refine ⟨rfl, by simp, ?_⟩
    conv => whnf
    repeat' first | ((first | refine z0 ?_ | refine Alt.snd (And.intro (show mixOk _ _ = true by decide +kernel) ?_) | refine And.intro (show (_ : List (Option Root))[_]? = _ from rfl) ?_ | (refine And.intro (fun h => ?_) (fun h => ?_) <;> (try simp only [cnt1, ints_length, rows_length, Tb_length, L_length, byts_length] at h) <;> first | (exfalso; first | omega | exact h trivial | (cases h; done)) | skip) | refine zS ?_ | refine zV ?_ | (apply zI; refine zP vObt ?_) | (apply zI; refine zP vObx ?_) | refine zA ?_ | refine And.intro (one_lst _ _ _) ?_ | refine And.intro (rows_plain _) ?_ | refine Alt.fst ?_ | refine Or.inl ?_) <;> conv => whnf) | fail
    refine ⟨(t ++ [us], a1, h1), ⟨⟨by simp; omega, fun i hi => ?_⟩, ha1⟩, by simp; omega, ?_⟩
    · simp only [List.length_append, List.length_cons, List.length_nil] at hi
      by_cases hi' : i < t.length
      · have e1 : (t ++ [us]).getD i [] = t.getD i [] := by simp [List.getD_eq_getElem?_getD, List.getElem?_append_left hi']
        rw [e1]; exact ht2 i hi'
      · have : i = t.length := by omega
        subst this
        have e1 : (t ++ [us]).getD t.length [] = us := by simp [List.getD_eq_getElem?_getD]
        rw [e1, hus]; omega
    conv => whnf
    first | refine WeakS.autoR ?_ | refine Weak.autoR ?_
    conv => whnf
    repeat' ((first | refine z1 ?_ | refine z2 ?_ | refine zV ?_ | refine And.intro vRepl ?_ | refine And.intro vReplL ?_ | refine And.intro ?_ ?_ | exact trivial) <;> try (conv => whnf))
  · repeat' first | (refine borA [1] (c_l01Next o l hb hl a0 ha0 h0 3) (fun d rt' hd => ?_)) | ((first | refine z0 ?_ | refine Alt.snd (And.intro (show mixOk _ _ = true by decide +kernel) ?_) | refine And.intro (show (_ : List (Option Root))[_]? = _ from rfl) ?_ | (refine And.intro (fun h => ?_) (fun h => ?_) <;> (try simp only [cnt1, ints_length, rows_length, Tb_length, L_length, byts_length] at h) <;> first | (exfalso; first | omega | exact h trivial | (cases h; done)) | skip) | refine zS ?_ | refine zV ?_ | (apply zI; refine zP vObt ?_) | (apply zI; refine zP vObx ?_) | refine zA ?_ | refine Alt.fst ?_ | refine Or.inl ?_) <;> conv => whnf) | fail
    obtain ⟨x, a1, h1, hx, ha1, rfl, rfl⟩ := hd
    refine ⟨rfl, by simp, ?_⟩
    conv => whnf
    have hx2 := hx.2 (by omega)
    have e : t.length = n := by omega
    have e0 : (0 : Int) ≤ 0 ∧ (0 : Int) < ((cnt 1 (ints (t.getD 0 []))) : Nat) := by
      have := ht2 0 (by omega)
      have e1 : cnt 1 (ints (t.getD 0 [])) = (t.getD 0 []).length := by simp [cnt, ints]
      rw [e1, this]; omega
    repeat' first | ((first | refine z0 ?_ | refine Alt.snd (And.intro (show mixOk _ _ = true by decide +kernel) ?_) | refine And.intro (show (_ : List (Option Root))[_]? = _ from rfl) ?_ | refine Or.inl (Or.inr (And.intro (mk_l03MakeW) ?_)) | refine Or.inr (And.intro (mk_l03MakeW) ?_) | (apply zI; refine zP (exact e0) ?_) | (refine And.intro (fun h => ?_) (fun h => ?_) <;> (try simp only [cnt1, ints_length, rows_length, Tb_length, L_length, byts_length] at h) <;> first | (exfalso; first | omega | exact h trivial | (cases h; done)) | skip) | refine zS ?_ | refine zV ?_ | (apply zI; refine zP vObt ?_) | (apply zI; refine zP vObx ?_) | refine zA ?_ | refine And.intro (rows_plain _) ?_ | refine Alt.fst ?_ | refine Or.inl ?_) <;> conv => whnf) | fail
    · have e2 : (t.set 0 ((t.getD 0 []).set 0 0)).length = n := by simp [e]
      refine ⟨.agg [dint m, .ref 2 [] 1 0 n], [none, some (srcR o l a1 h1), some ⟨false, 1, rows true (t.set 0 ((t.getD 0 []).set 0 0))⟩], ⟨t.set 0 ((t.getD 0 []).set 0 0), a1, h1, ⟨triP_set ⟨ht1, ht2⟩ _ _, e2⟩, ha1, rfl, rfl⟩, Weak.of (kp := 2) [none, some 1, some 3] ?_⟩
      conv => whnf
      repeat' ((first | refine z1 ?_ | refine z2 ?_ | refine zV ?_ | refine And.intro ?_ ?_ | exact trivial) <;> try (conv => whnf))
    · refine ⟨.agg [dint m, .ref 2 [] 1 0 n], [none, some (srcR o l a1 h1), some ⟨false, 1, rows true t⟩], ⟨t, a1, h1, ⟨⟨ht1, ht2⟩, e⟩, ha1, rfl, rfl⟩, Weak.of (kp := 2) [none, some 1, some 3] ?_⟩
      conv => whnf
      repeat' ((first | refine z1 ?_ | refine z2 ?_ | refine zV ?_ | refine And.intro ?_ ?_ | exact trivial) <;> try (conv => whnf))
end Go.Proofs

