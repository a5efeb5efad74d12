import Derived.Test.YtndhpcigpghejaaGreatK112
import Derived.Test.YtndhpcigpghejaaGreatK3
namespace Go.Proofs
open Go Go.Vm Go.Fg Go.Fg.PS
set_option maxRecDepth 100000
set_option maxHeartbeats 4000000
set_option linter.unusedSimpArgs false
set_option linter.unusedVariables false
variable {m : Int}
theorem getD_app {us vs : List Int} {i : Nat} (h : i < us.length) : (us ++ vs).getD i 0 = us.getD i 0 := by
 rw [List.getD_eq_getElem?_getD, List.getElem?_append_left h, ← List.getD_eq_getElem?_getD]
theorem nums_snoc {us : List Int} {z : Int} (h : Nums m us) (hz : 0 ≤ z ∧ z < m) : Nums m (us ++ [z]) := fun x hx => by
 rcases List.mem_append.1 hx with hx | hx
 · exact h x hx
 · have : x = z := by simpa using hx
   rw [this]; exact hz
theorem c_l04DrawModulus (o : Bool) (l : List Nat) (hb : ∀ b ∈ l, b < 256) (hl : l.length ≤ 4611686018427387904) (a : Nat) (ha : a ≤ l.length) (hs : Int) :
   CallsTo Tryz.prog 452 2 [.ptr 1 [] 0] [none, some (srcR o l a hs)]
     (fun d rt => ∃ (x : Int) (a' : Nat) (h' : Int), (2 ≤ x ∧ x ≤ 9973) ∧ a' ≤ l.length ∧ d = dint x ∧ rt = [none, some (srcR o l a' h')]) := by
 refine callsTo_of Tryz.tabOk mixOrd 2 _ Tryz.func452 rfl rfl ?_
 conv => whnf
 repeat' first | (refine borA [1] (c_l01Next o l hb hl a ha hs 60) (fun d rt' hd => ?_)) | fail
 obtain ⟨x, a1, h1, hx, ha1, rfl, rfl⟩ := hd
 refine ⟨rfl, by simp, ?_⟩
 conv => whnf
 have hx2 := hx.2 (by omega)
 repeat' first | (refine borA [1, 2] (c_l01Pick o l hb hl a1 ha1 h1 [2, 3, 5, 7, 4, 9, 8, 6, 11, 101, 9973, 2 + x] (by simp)) (fun d rt' hd => ?_)) | ((first | refine zV ?_) <;> conv => whnf) | fail
 obtain ⟨y, a2, h2, hy, ha2, rfl, rfl⟩ := hd
 refine ⟨rfl, by simp, ?_⟩
 conv => whnf
 repeat' first | ((first | refine z0 ?_ | (refine And.intro (fun h => ?_) (fun h => ?_) <;> (try simp only [cnt1, ints_length] at h)) | refine zS ?_ | refine zV ?_ | (apply zI; refine zP vObt ?_) | (apply zI; refine zP vObx ?_) | refine zA ?_ | refine Alt.fst ?_ | refine Or.inl ?_) <;> conv => whnf) | fail
 have hy2 : 2 ≤ y ∧ y ≤ 9973 := by
   simp only [List.mem_cons, List.not_mem_nil, or_false] at hy
   omega
 refine ⟨dint y, [none, some (srcR o l a2 h2)], ⟨y, a2, h2, hy2, ha2, rfl, rfl⟩, Weak.of (kp := 2) [none, some 1] ?_⟩
 conv => whnf
 repeat' ((first | refine z1 ?_ | refine zV ?_ | refine And.intro ?_ ?_ | exact trivial) <;> try (conv => whnf))
theorem c_l04DrawCurve (hm : Md m) (o : Bool) (l : List Nat) (hb : ∀ b ∈ l, b < 256) (hl : l.length ≤ 4611686018427387904) (a : Nat) (ha : a ≤ l.length) (hs : Int) (n : Nat) (hn : 2 ≤ n ∧ n ≤ 11) {d : Int} (hd : d + 1 = n) :
   CallsTo Tryz.prog 252 2 [.ptr 1 [] 0, dint m, dint d] [none, some (srcR o l a hs)]
     (fun d rt => ∃ (f : PS (Zm m)) (a' : Nat) (h' : Int), (f.c 0 = 0 ∧ f.c 1 = 1) ∧ a' ≤ l.length ∧ d = .ref 2 [] 1 0 n ∧ rt = [none, some (srcR o l a' h'), some ⟨false, 1, ints (L n f)⟩]) := by
 have hm1 := hm.1
 have hm2 := hm.2
 refine callsTo_of Tryz.tabOk mixOrd 2 _ Tryz.func252 rfl rfl ?_
 conv => whnf
 repeat' first | ((first | refine z0 ?_ | (refine And.intro (fun h => ?_) (fun h => ?_) <;> (try simp only [cnt1, ints_length] at h)) | refine zS ?_ | refine zV ?_ | (apply zI; refine zP vObt ?_) | (apply zI; refine zP vObx ?_) | refine zA ?_ | refine Alt.fst ?_ | refine Or.inl ?_) <;> conv => whnf) | fail
 refine loop_atR Tryz.tabOk mixOrd (α := List Int × Nat × Int) (fun u => [(8, dint u.1.length), (7, .ref 2 [] 1 0 u.1.length), (9, .undef)]) (fun u => [(1, some (srcR o l u.2.1 u.2.2)), (2, some ⟨false, 1, ints u.1⟩)]) (fun u => (2 ≤ u.1.length ∧ u.1.length ≤ n) ∧ (u.1.getD 0 0 = 0 ∧ u.1.getD 1 0 = 1) ∧ Nums m u.1 ∧ u.2.1 ≤ l.length) (fun u => n - u.1.length) (([0, 1], a, hs)) ?_ ?_ ?_
 · exact ⟨⟨by simp, by simpa using hn.1⟩, ⟨rfl, rfl⟩, fun x hx => by simp at hx; omega, ha⟩
 · conv => whnf
   first | refine WeakS.autoR ?_ | refine Weak.autoR ?_
   conv => whnf
   repeat' ((first | refine z1 ?_ | refine z2 ?_ | refine zV ?_ | exact trivial) <;> try (conv => whnf))
 intro u hu
 obtain ⟨us, a0, h0⟩ := u
 obtain ⟨⟨hu1, hu2⟩, ⟨hu3, hu4⟩, hu5, ha0⟩ := hu
 simp only at hu1 hu2 hu3 hu4 hu5 ha0
 conv => whnf
 by_cases hlt : us.length < n
 · repeat' first | (refine borA [1] (c_l01Next o l hb hl a0 ha0 h0 m) (fun d rt' hd => ?_)) | ((first | (refine And.intro (fun h => ?_) (fun h => ?_) <;> (try simp only [cnt1, ints_length] at h) <;> first | (exfalso; omega) | skip)) <;> conv => whnf) | fail
   obtain ⟨x, a1, h1, hx, ha1, rfl, rfl⟩ := hd
   refine ⟨rfl, by simp, ?_⟩
   conv => whnf
   have hx2 := hx.2 (by omega)
   repeat' first | (refine borA [1] (c_l01Next o l hb hl a1 ha1 h1 m) (fun d rt' hd => ?_)) | fail
   obtain ⟨y, a2, h2, hy, ha2, rfl, rfl⟩ := hd
   refine ⟨rfl, by simp, ?_⟩
   conv => whnf
   have hy2 := hy.2 (by omega)
   repeat' first | (refine borA [1, 3] (c_l01Pick o l hb hl a2 ha2 h2 [0, 0, x, y] (by simp)) (fun d rt' hd => ?_)) | fail
   obtain ⟨z, a3, h3, hz, ha3, rfl, rfl⟩ := hd
   refine ⟨rfl, by simp, ?_⟩
   conv => whnf
   have hz2 : 0 ≤ z ∧ z < m := by
     simp only [List.mem_cons, List.not_mem_nil, or_false] at hz
     omega
   repeat' first | ((first | refine z0 ?_ | (refine And.intro (fun h => ?_) (fun h => ?_) <;> (try simp only [cnt1, ints_length] at h) <;> first | (exfalso; omega) | skip) | refine zS ?_ | refine zV ?_ | (apply zI; refine zP vObt ?_) | (apply zI; refine zP vObx ?_)) <;> conv => whnf) | fail
   refine Exists.intro (us ++ [z], a3, h3) (And.intro ⟨⟨by simp only [List.length_append, List.length_singleton]; omega, by simp only [List.length_append, List.length_singleton]; omega⟩, ⟨by rw [getD_app (by omega)]; exact hu3, by rw [getD_app (by omega)]; exact hu4⟩, nums_snoc hu5 hz2, ha3⟩ (And.intro (by simp only [List.length_append, List.length_singleton]; omega) ?_))
   first | refine WeakS.autoR ?_ | refine Weak.autoR ?_
   conv => whnf
   repeat' ((first | refine z1 ?_ | refine z2 ?_ | refine zV ?_ | exact trivial) <;> try (conv => whnf))
   all_goals simp [ints]
 · repeat' first | ((first | refine z0 ?_ | (refine And.intro (fun h => ?_) (fun h => ?_) <;> (try simp only [cnt1, ints_length] at h) <;> first | (exfalso; omega) | skip) | refine zS ?_ | refine zV ?_ | (apply zI; refine zP vObt ?_) | (apply zI; refine zP vObx ?_)) <;> conv => whnf) | fail
   have hl2 : us.length = n := by omega
   have e := L_rd hu5
   rw [hl2] at e
   refine ⟨.ref 2 [] 1 0 n, [none, some (srcR o l a0 h0), some ⟨false, 1, ints (L n (rd m us))⟩], ⟨rd m us, a0, h0, ⟨by rw [rd_c, hu3]; rfl, by rw [rd_c, hu4]; rfl⟩, ha0, rfl, rfl⟩, Weak.of (kp := 2) [none, some 1, some 2] ?_⟩
   conv => whnf
   repeat' ((first | refine z1 ?_ | refine zV ?_ | refine And.intro ?_ ?_ | exact trivial) <;> try (conv => whnf))
   all_goals first | exact hl2 | rw [e]
theorem c_l08DrawList (hm : Md m) (o : Bool) (l : List Nat) (hb : ∀ b ∈ l, b < 256) (hl : l.length ≤ 4611686018427387904) (a : Nat) (ha : a ≤ l.length) (hs : Int) :
   CallsTo Tryz.prog 347 2 [.ptr 1 [] 0, dint m] [none, some (srcR o l a hs)]
     (fun d rt => ∃ (f : PS (Zm m)) (a' : Nat) (h' : Int), a' ≤ l.length ∧ d = .ref 2 [] 1 0 5 ∧ rt = [none, some (srcR o l a' h'), some ⟨false, 1, ints (L 5 f)⟩]) := by
 have hm1 := hm.1
 have hm2 := hm.2
 refine callsTo_of Tryz.tabOk mixOrd 2 _ Tryz.func347 rfl rfl ?_
 conv => whnf
 repeat' first | ((first | refine z0 ?_ | (refine And.intro (fun h => ?_) (fun h => ?_) <;> (try simp only [cnt1, ints_length] at h)) | refine zS ?_ | refine zV ?_ | (apply zI; refine zP vObt ?_) | (apply zI; refine zP vObx ?_) | refine zA ?_ | refine Alt.fst ?_ | refine Or.inl ?_) <;> conv => whnf) | fail
 refine loop_atR Tryz.tabOk mixOrd (α := List Int × Nat × Int) (fun u => [(6, dint u.1.length), (5, .ref 2 [] 1 0 u.1.length), (7, .undef)]) (fun u => [(1, some (srcR o l u.2.1 u.2.2)), (2, some ⟨false, 1, ints u.1⟩)]) (fun u => u.1.length ≤ 5 ∧ Nums m u.1 ∧ u.2.1 ≤ l.length) (fun u => 5 - u.1.length) (([], a, hs)) ?_ ?_ ?_
 · exact ⟨by simp, fun x hx => by simp at hx, ha⟩
 · conv => whnf
   first | refine WeakS.autoR ?_ | refine Weak.autoR ?_
   conv => whnf
   repeat' ((first | refine z1 ?_ | refine z2 ?_ | refine zV ?_ | exact trivial) <;> try (conv => whnf))
 intro u hu
 obtain ⟨us, a0, h0⟩ := u
 obtain ⟨hu2, hu5, ha0⟩ := hu
 simp only at hu2 hu5 ha0
 conv => whnf
 by_cases hlt : us.length < 5
 · repeat' first | (refine borA [1] (c_l01Next o l hb hl a0 ha0 h0 m) (fun d rt' hd => ?_)) | ((first | (refine And.intro (fun h => ?_) (fun h => ?_) <;> (try simp only [cnt1, ints_length] at h) <;> first | (exfalso; omega) | skip)) <;> conv => whnf) | fail
   obtain ⟨x, a1, h1, hx, ha1, rfl, rfl⟩ := hd
   refine ⟨rfl, by simp, ?_⟩
   conv => whnf
   have hx2 := hx.2 (by omega)
   repeat' first | (refine borA [1, 3] (c_l01Pick o l hb hl a1 ha1 h1 [0, 0, 1, x] (by simp)) (fun d rt' hd => ?_)) | fail
   obtain ⟨z, a3, h3, hz, ha3, rfl, rfl⟩ := hd
   refine ⟨rfl, by simp, ?_⟩
   conv => whnf
   have hz2 : 0 ≤ z ∧ z < m := by
     simp only [List.mem_cons, List.not_mem_nil, or_false] at hz
     omega
   repeat' first | ((first | refine z0 ?_ | (refine And.intro (fun h => ?_) (fun h => ?_) <;> (try simp only [cnt1, ints_length] at h) <;> first | (exfalso; omega) | skip) | refine zS ?_ | refine zV ?_ | (apply zI; refine zP vObt ?_) | (apply zI; refine zP vObx ?_)) <;> conv => whnf) | fail
   refine Exists.intro (us ++ [z], a3, h3) (And.intro ⟨by simp only [List.length_append, List.length_singleton]; omega, nums_snoc hu5 hz2, ha3⟩ (And.intro (by simp only [List.length_append, List.length_singleton]; omega) ?_))
   first | refine WeakS.autoR ?_ | refine Weak.autoR ?_
   conv => whnf
   repeat' ((first | refine z1 ?_ | refine z2 ?_ | refine zV ?_ | exact trivial) <;> try (conv => whnf))
   all_goals simp [ints]
 · repeat' first | ((first | refine z0 ?_ | (refine And.intro (fun h => ?_) (fun h => ?_) <;> (try simp only [cnt1, ints_length] at h) <;> first | (exfalso; omega) | skip) | refine zS ?_ | refine zV ?_ | (apply zI; refine zP vObt ?_) | (apply zI; refine zP vObx ?_)) <;> conv => whnf) | fail
   have hl2 : us.length = 5 := by omega
   have e := L_rd hu5
   rw [hl2] at e
   refine ⟨.ref 2 [] 1 0 5, [none, some (srcR o l a0 h0), some ⟨false, 1, ints (L 5 (rd m us))⟩], ⟨rd m us, a0, h0, ha0, rfl, rfl⟩, Weak.of (kp := 2) [none, some 1, some 2] ?_⟩
   conv => whnf
   repeat' ((first | refine z1 ?_ | refine zV ?_ | refine And.intro ?_ ?_ | exact trivial) <;> try (conv => whnf))
   all_goals first | exact hl2 | rw [e]
end Go.Proofs
