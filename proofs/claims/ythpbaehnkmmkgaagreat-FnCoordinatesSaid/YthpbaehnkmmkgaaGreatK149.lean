import Derived.Test.YthpbaehnkmmkgaaGreatK133
import Derived.Test.YthpbaehnkmmkgaaGreatK138
import Derived.Test.YthpbaehnkmmkgaaGreatK142
import Derived.Test.YthpbaehnkmmkgaaGreatK22
import Derived.Test.YthpbaehnkmmkgaaGreatK132
import Derived.Test.YthpbaehnkmmkgaaGreatK154
import Derived.Test.YthpbaehnkmmkgaaGreatK125
import Derived.Test.YthpbaehnkmmkgaaGreatK135B
namespace Go.Proofs
open Go Go.Vm Go.Fg Go.Fg.PS
set_option linter.unusedVariables false
theorem wei : Wei := fun _ hm n hn _ hd o a => ⟨wF n a, c_l08Weierstrass hm o n hn hd a⟩
set_option maxRecDepth 100000
set_option maxHeartbeats 4000000
set_option linter.unusedSimpArgs false
variable {m : Int}
theorem serB_LX (hm : Md m) {n : Nat} (hn : 2 ≤ n ∧ n ≤ 11) (a : PS (Zm m)) : serB m (L n a) = true := by
 simp only [serB, Bool.and_eq_true]
 refine ⟨⟨?_, ?_⟩, ?_⟩
 · simpa [inB, Md] using hm
 · simp [inB]; omega
 · refine numsB_of (fun j hj => ?_)
   rw [L_getD _ (by simpa using hj)]
   have := Zm.val_range hm.pos (a.c j)
   simp [inB]; omega
end Go.Proofs
namespace Go.Proofs
open Go Go.Vm Go.Fg Go.Fg.PS
set_option maxRecDepth 100000
set_option maxHeartbeats 4000000
set_option linter.unusedSimpArgs false
set_option linter.unusedVariables false
open Classical in
noncomputable def exC (m : Int) (t : List (List Int)) (m' : Int) (t' : List (List Int)) : Int := if twC m t m' t' = 0 then (if t.length = 2 then 2 else if agr (rd2 m t) (rd2 m t') t.length < t.length - 1 then 5 else 0) else twC m t m' t'
variable {m : Int}
theorem c_l01DrawModulus (o : Bool) (l : List Nat) (hb : ∀ b ∈ l, b < 256) (hl : l.length ≤ 4611686018427387904) (a : Nat) (ha : a ≤ l.length) (hs : Int) :
   CallsTo Tryz.prog 359 2 [.ptr 1 [] 0] [none, some (srcR o l a hs)]
     (fun d rt => ∃ (x : Int) (a' : Nat) (h' : Int), (2 ≤ x ∧ x ≤ 10000) ∧ a' ≤ l.length ∧ d = dint x ∧ rt = [none, some (srcR o l a' h')]) := by
 refine callsTo_of Tryz.tabOk mixOrd 2 _ Tryz.func359 rfl rfl ?_
 conv => whnf
 repeat' first | (refine borA [1] (c_l01Next o l hb hl a ha hs 100) (fun d rt' hd => ?_)) | ((first | refine z0 ?_ | refine Alt.snd (And.intro (show mixOk _ _ = true by decide +kernel) ?_) | refine And.intro (show (_ : List (Option Root))[_]? = _ from rfl) ?_ | (refine And.intro (fun h => ?_) (fun h => ?_) <;> (try simp only [cnt1, ints_length] at h)) | refine zS ?_ | refine zV ?_ | (apply zI; refine zP vObt ?_) | (apply zI; refine zP vObx ?_) | refine zA ?_ | refine Alt.fst ?_ | refine Or.inl ?_) <;> conv => whnf) | fail
 obtain ⟨x, a1, h1, hx, ha1, rfl, rfl⟩ := hd
 refine ⟨rfl, by simp, ?_⟩
 conv => whnf
 have hx2 := hx.2 (by omega)
 repeat' first | (refine borA [1] (c_l01Next o l hb hl a1 ha1 h1 9999) (fun d rt' hd => ?_)) | ((first | refine z0 ?_ | refine Alt.snd (And.intro (show mixOk _ _ = true by decide +kernel) ?_) | refine And.intro (show (_ : List (Option Root))[_]? = _ from rfl) ?_ | (refine And.intro (fun h => ?_) (fun h => ?_) <;> (try simp only [cnt1, ints_length] at h)) | refine zS ?_ | refine zV ?_ | (apply zI; refine zP vObt ?_) | (apply zI; refine zP vObx ?_) | refine zA ?_ | refine Alt.fst ?_ | refine Or.inl ?_) <;> conv => whnf) | fail
 obtain ⟨z, a3, h3, hz, ha3, rfl, rfl⟩ := hd
 refine ⟨rfl, by simp, ?_⟩
 conv => whnf
 have hz2 := hz.2 (by omega)
 repeat' first | (refine borA [1, 2] (c_l01Pick o l hb hl a3 ha3 h3 [2, 3, 4, 5, 6, 7, 8, 9, 10, 12, 16, 25, 27, 30, 49, 101, 210, 2 + x, 2 + z, 10000] (by simp)) (fun d rt' hd => ?_)) | ((first | refine z0 ?_ | refine Alt.snd (And.intro (show mixOk _ _ = true by decide +kernel) ?_) | refine And.intro (show (_ : List (Option Root))[_]? = _ from rfl) ?_ | (refine And.intro (fun h => ?_) (fun h => ?_) <;> (try simp only [cnt1, ints_length] at h)) | refine zS ?_ | refine zV ?_ | (apply zI; refine zP vObt ?_) | (apply zI; refine zP vObx ?_) | refine zA ?_ | refine Alt.fst ?_ | refine Or.inl ?_) <;> conv => whnf) | fail
 obtain ⟨y, a2, h2, hy, ha2, rfl, rfl⟩ := hd
 refine ⟨rfl, by simp, ?_⟩
 conv => whnf
 repeat' first | ((first | refine z0 ?_ | (refine And.intro (fun h => ?_) (fun h => ?_) <;> (try simp only [cnt1, ints_length] at h)) | refine zS ?_ | refine zV ?_ | (apply zI; refine zP vObt ?_) | (apply zI; refine zP vObx ?_) | refine zA ?_ | refine Alt.fst ?_ | refine Or.inl ?_) <;> conv => whnf) | fail
 have hy2 : 2 ≤ y ∧ y ≤ 10000 := by
   simp only [List.mem_cons, List.not_mem_nil, or_false] at hy
   omega
 refine ⟨dint y, [none, some (srcR o l a2 h2)], ⟨y, a2, h2, hy2, ha2, rfl, rfl⟩, Weak.of (kp := 2) [none, some 1] ?_⟩
 conv => whnf
 repeat' ((first | refine z1 ?_ | refine z2 ?_ | refine zV ?_ | refine And.intro ?_ ?_ | exact trivial) <;> try (conv => whnf))
theorem c_l01Count (o : Bool) (l : List Nat) (hb : ∀ b ∈ l, b < 256) (hl : l.length ≤ 4611686018427387904) (a : Nat) (ha : a ≤ l.length) (hs : Int) (n : Int) (hn : 0 ≤ n ∧ n ≤ 1000) :
   CallsTo Tryz.prog 177 2 [.ptr 1 [] 0, dint n] [none, some (srcR o l a hs)]
     (fun d rt => ∃ (x : Int) (a' : Nat) (h' : Int), (-4611686018427387904 ≤ x ∧ x ≤ 1099511627776) ∧ a' ≤ l.length ∧ d = dint x ∧ rt = [none, some (srcR o l a' h')]) := by
 refine callsTo_of Tryz.tabOk mixOrd 2 _ Tryz.func177 rfl rfl ?_
 conv => whnf
 repeat' first | (refine borA [1] (c_l01Next o l hb hl a ha hs 14) (fun d rt' hd => ?_)) | ((first | refine z0 ?_ | refine Alt.snd (And.intro (show mixOk _ _ = true by decide +kernel) ?_) | refine And.intro (show (_ : List (Option Root))[_]? = _ from rfl) ?_ | (refine And.intro (fun h => ?_) (fun h => ?_) <;> (try simp only [cnt1, ints_length] at h)) | refine zS ?_ | refine zV ?_ | (apply zI; refine zP vObt ?_) | (apply zI; refine zP vObx ?_) | refine zA ?_ | refine Alt.fst ?_ | refine Or.inl ?_) <;> conv => whnf) | fail
 obtain ⟨x, a1, h1, hx, ha1, rfl, rfl⟩ := hd
 refine ⟨rfl, by simp, ?_⟩
 conv => whnf
 have hx2 := hx.2 (by omega)
 repeat' first | (refine borA [1, 2] (c_l01Pick o l hb hl a1 ha1 h1 [-1, n + 1, 1099511627776, -4611686018427387904] (by simp)) (fun d rt' hd => ?_)) | (refine borA [1] (c_l01Next o l hb hl a1 ha1 h1 (n + 1)) (fun d rt' hd => ?_)) | ((first | refine z0 ?_ | refine Alt.snd (And.intro (show mixOk _ _ = true by decide +kernel) ?_) | refine And.intro (show (_ : List (Option Root))[_]? = _ from rfl) ?_ | (refine And.intro (fun h => ?_) (fun h => ?_) <;> (try simp only [cnt1, ints_length] at h)) | refine zS ?_ | refine zV ?_ | (apply zI; refine zP vObt ?_) | (apply zI; refine zP vObx ?_) | refine zA ?_ | refine Alt.fst ?_ | refine Or.inl ?_) <;> conv => whnf) | fail
 · obtain ⟨y, a2, h2, hy, ha2, rfl, rfl⟩ := hd
   refine ⟨rfl, by simp, ?_⟩
   conv => whnf
   repeat' first | ((first | refine z0 ?_ | (refine And.intro (fun h => ?_) (fun h => ?_) <;> (try simp only [cnt1, ints_length] at h)) | refine zS ?_ | refine zV ?_ | (apply zI; refine zP vObt ?_) | (apply zI; refine zP vObx ?_) | refine zA ?_ | refine Alt.fst ?_ | refine Or.inl ?_) <;> conv => whnf) | fail
   have hy2 : -4611686018427387904 ≤ y ∧ y ≤ 1099511627776 := by
     simp only [List.mem_cons, List.not_mem_nil, or_false] at hy
     omega
   refine ⟨dint y, [none, some (srcR o l a2 h2)], ⟨y, a2, h2, hy2, ha2, rfl, rfl⟩, Weak.of (kp := 2) [none, some 1] ?_⟩
   conv => whnf
   repeat' ((first | refine z1 ?_ | refine z2 ?_ | refine zV ?_ | refine And.intro ?_ ?_ | exact trivial) <;> try (conv => whnf))
 · obtain ⟨y, a2, h2, hy, ha2, rfl, rfl⟩ := hd
   refine ⟨rfl, by simp, ?_⟩
   conv => whnf
   have hy2 := hy.2 (by omega)
   repeat' first | ((first | refine z0 ?_ | (refine And.intro (fun h => ?_) (fun h => ?_) <;> (try simp only [cnt1, ints_length] at h)) | refine zS ?_ | refine zV ?_ | (apply zI; refine zP vObt ?_) | (apply zI; refine zP vObx ?_) | refine zA ?_ | refine Alt.fst ?_ | refine Or.inl ?_) <;> conv => whnf) | fail
   refine ⟨dint y, [none, some (srcR o l a2 h2)], ⟨y, a2, h2, by omega, ha2, rfl, rfl⟩, Weak.of (kp := 2) [none, some 1] ?_⟩
   conv => whnf
   repeat' ((first | refine z1 ?_ | refine z2 ?_ | refine zV ?_ | refine And.intro ?_ ?_ | exact trivial) <;> try (conv => whnf))
theorem c_l01List (o : Bool) (l : List Nat) (hb : ∀ b ∈ l, b < 256) (hl : l.length ≤ 4611686018427387904) (a : Nat) (ha : a ≤ l.length) (hs : Int) (m : Int) (hm : -5 ≤ m ∧ m ≤ 1099511627776) (n : Int) (hn : n ≤ 100) :
   CallsTo Tryz.prog 195 2 [.ptr 1 [] 0, dint m, dint n] [none, some (srcR o l a hs)]
     (fun d rt => ∃ (us : List Int) (a' : Nat) (h' : Int), us.length = n.toNat ∧ a' ≤ l.length ∧ d = .ref 2 [] 1 0 n.toNat ∧ rt = [none, some (srcR o l a' h'), some ⟨false, 1, ints us⟩]) := by
 refine callsTo_of Tryz.tabOk mixOrd 2 _ Tryz.func195 rfl rfl ?_
 conv => whnf
 repeat' first | ((first | refine z0 ?_ | (refine And.intro (fun h => ?_) (fun h => ?_) <;> (try simp only [cnt1, ints_length] at h)) | refine zS ?_ | refine zV ?_ | (apply zI; refine zP vObt ?_) | (apply zI; refine zP vObx ?_) | refine zA ?_ | refine Alt.fst ?_ | refine Or.inl ?_) <;> conv => whnf) | fail
 refine loop_atR Tryz.tabOk mixOrd (α := List Int × Nat × Int) (fun u => [(2, dint (n - u.1.length)), (7, .ref 2 [] 1 0 u.1.length), (8, .undef)]) (fun u => [(1, some (srcR o l u.2.1 u.2.2)), (2, some ⟨false, 1, ints u.1⟩)]) (fun u => u.1.length ≤ n.toNat ∧ u.2.1 ≤ l.length) (fun u => n.toNat - u.1.length) (([], a, hs)) ?_ ?_ ?_
 · exact ⟨by simp, ha⟩
 · conv => whnf
   first | refine WeakS.autoR ?_ | refine Weak.autoR ?_
   conv => whnf
   repeat' ((first | refine z1 ?_ | refine z2 ?_ | refine zV ?_ | refine And.intro vRepl ?_ | refine And.intro vReplL ?_ | refine And.intro ?_ ?_ | exact trivial) <;> try (conv => whnf))
   all_goals simp
 intro u hu
 obtain ⟨us, a0, h0⟩ := u
 obtain ⟨hu2, ha0⟩ := hu
 simp only at hu2 ha0
 conv => whnf
 by_cases hlt : us.length < n.toNat
 · repeat' first | (refine borA [1] (c_l01Next o l hb hl a0 ha0 h0 m) (fun d rt' hd => ?_)) | ((first | refine z0 ?_ | refine Alt.snd (And.intro (show mixOk _ _ = true by decide +kernel) ?_) | refine And.intro (show (_ : List (Option Root))[_]? = _ from rfl) ?_ | (refine And.intro (fun h => ?_) (fun h => ?_) <;> (try simp only [cnt1, ints_length, rows_length, Tb_length, L_length, byts_length] at h) <;> first | (exfalso; first | omega | exact h trivial | (cases h; done)) | skip) | refine zS ?_ | refine zV ?_ | (apply zI; refine zP vObt ?_) | (apply zI; refine zP vObx ?_) | refine zA ?_ | refine Alt.fst ?_ | refine Or.inl ?_) <;> conv => whnf) | fail
   obtain ⟨x, a1, h1, hx, ha1, rfl, rfl⟩ := hd
   refine ⟨rfl, by simp, ?_⟩
   conv => whnf
   repeat' first | (refine borA [1] (c_l01Next o l hb hl a1 ha1 h1 m) (fun d rt' hd => ?_)) | ((first | refine z0 ?_ | refine Alt.snd (And.intro (show mixOk _ _ = true by decide +kernel) ?_) | refine And.intro (show (_ : List (Option Root))[_]? = _ from rfl) ?_ | (refine And.intro (fun h => ?_) (fun h => ?_) <;> (try simp only [cnt1, ints_length, rows_length, Tb_length, L_length, byts_length] at h) <;> first | (exfalso; first | omega | exact h trivial | (cases h; done)) | skip) | refine zS ?_ | refine zV ?_ | (apply zI; refine zP vObt ?_) | (apply zI; refine zP vObx ?_) | refine zA ?_ | refine Alt.fst ?_ | refine Or.inl ?_) <;> conv => whnf) | fail
   obtain ⟨y, a2, h2, hy, ha2, rfl, rfl⟩ := hd
   refine ⟨rfl, by simp, ?_⟩
   conv => whnf
   repeat' first | (refine borA [1, 3] (c_l01Pick o l hb hl a2 ha2 h2 [0, (1 : Int).tmod (max m 1), x, y] (by simp)) (fun d rt' hd => ?_)) | ((first | refine z0 ?_ | refine Alt.snd (And.intro (show mixOk _ _ = true by decide +kernel) ?_) | refine And.intro (show (_ : List (Option Root))[_]? = _ from rfl) ?_ | (refine And.intro (fun h => ?_) (fun h => ?_) <;> (try simp only [cnt1, ints_length, rows_length, Tb_length, L_length, byts_length] at h) <;> first | (exfalso; first | omega | exact h trivial | (cases h; done)) | skip) | refine zS ?_ | refine zV ?_ | (apply zI; refine zP vObt ?_) | (apply zI; refine zP vObx ?_) | refine zA ?_ | refine Alt.fst ?_ | refine Or.inl ?_) <;> conv => whnf) | fail
   obtain ⟨z, a3, h3, hz, ha3, rfl, rfl⟩ := hd
   refine ⟨rfl, by simp, ?_⟩
   conv => whnf
   repeat' first | ((first | refine z0 ?_ | refine Alt.snd (And.intro (show mixOk _ _ = true by decide +kernel) ?_) | refine And.intro (show (_ : List (Option Root))[_]? = _ from rfl) ?_ | (refine And.intro (fun h => ?_) (fun h => ?_) <;> (try simp only [cnt1, ints_length, rows_length, Tb_length, L_length, byts_length] at h) <;> first | (exfalso; first | omega | exact h trivial | (cases h; done)) | skip) | refine zS ?_ | refine zV ?_ | (apply zI; refine zP vObt ?_) | (apply zI; refine zP vObx ?_) | refine zA ?_ | refine Alt.fst ?_ | refine Or.inl ?_) <;> conv => whnf) | fail
   refine Exists.intro (us ++ [z], a3, h3) (And.intro ⟨by simp only [List.length_append, List.length_singleton]; omega, ha3⟩ (And.intro (by simp only [List.length_append, List.length_singleton]; omega) ?_))
   first | refine WeakS.autoR ?_ | refine Weak.autoR ?_
   conv => whnf
   repeat' ((first | refine z1 ?_ | refine z2 ?_ | refine zV ?_ | refine And.intro vRepl ?_ | refine And.intro vReplL ?_ | refine And.intro ?_ ?_ | exact trivial) <;> try (conv => whnf))
   all_goals first | (simp [ints]; done) | (simp; omega)
 · repeat' first | ((first | refine z0 ?_ | (refine And.intro (fun h => ?_) (fun h => ?_) <;> (try simp only [cnt1, ints_length, rows_length, Tb_length, L_length, byts_length] at h) <;> first | (exfalso; first | omega | exact h trivial | (cases h; done)) | skip) | refine zS ?_ | refine zV ?_ | (apply zI; refine zP vObt ?_) | (apply zI; refine zP vObx ?_) | refine zA ?_ | refine Alt.fst ?_ | refine Or.inl ?_) <;> conv => whnf) | fail
   have e : us.length = n.toNat := by omega
   refine ⟨.ref 2 [] 1 0 n.toNat, [none, some (srcR o l a0 h0), some ⟨false, 1, ints us⟩], ⟨us, a0, h0, e, ha0, rfl, rfl⟩, Weak.of (kp := 2) [none, some 1, some 2] ?_⟩
   conv => whnf
   repeat' ((first | refine z1 ?_ | refine z2 ?_ | refine zV ?_ | refine And.intro ?_ ?_ | exact trivial) <;> try (conv => whnf))
end Go.Proofs
