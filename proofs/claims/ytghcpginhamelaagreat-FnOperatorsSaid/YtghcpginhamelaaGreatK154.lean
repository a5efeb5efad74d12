/- Parts of the proof. -/
import Derived.Test.YtghcpginhamelaaGreatK112
import Derived.Test.YtghcpginhamelaaGreatAlg7
import Derived.Test.YtghcpginhamelaaGreatVm32
import Derived.Test.YtghcpginhamelaaGreatAlg11
namespace Go.Proofs
open Go Go.Vm Go.Fg Go.Fg.PS
set_option maxRecDepth 100000
set_option maxHeartbeats 4000000
set_option linter.unusedSimpArgs false
set_option linter.unusedVariables false
variable {m : Int}
theorem Aab {us vs : List Int} {i : Nat} (h : i < us.length) : (us ++ vs).getD i 0 = us.getD i 0 := by
 rw [List.getD_eq_getElem?_getD, List.getElem?_append_left h, ← List.getD_eq_getElem?_getD]
theorem Agc {us : List Int} {z : Int} (h : Nums m us) (hz : 0 ≤ z ∧ z < m) : Nums m (us ++ [z]) := fun x hx => by
 rcases List.mem_append.1 hx with hx | hx
 · exact h x hx
 · have : x = z := by simpa using hx
   rw [this]; exact hz
theorem Ajs (o : Bool) (l : List Nat) (hb : ∀ b ∈ l, b < 256) (hl : l.length ≤ 4611686018427387904) (a : Nat) (ha : a ≤ l.length) (hs : Int) :
   cN Tryz.prog 308 2 [.ptr 1 [] 0] [none, some (aN o l a hs)]
     (fun d rt => ∃ (x : Int) (a' : Nat) (h' : Int), (2 ≤ x ∧ x ≤ 9973) ∧ a' ≤ l.length ∧ d = aA x ∧ rt = [none, some (aN o l a' h')]) := by
 refine dY Tryz.tabOk aF 2 _ Tryz.func308 rfl rfl ?_
 conv => whnf
 repeat' first | (refine bD [1] (cW o l hb hl a ha hs 60) (fun d rt' hd => ?_)) | fail
 obtain ⟨x, a1, h1, hx, ha1, rfl, rfl⟩ := hd
 refine ⟨rfl, by simp, ?_⟩
 conv => whnf
 have hx2 := hx.2 (by omega)
 repeat' first | (refine bD [1, 2] (jM o l hb hl a1 ha1 h1 [2, 3, 5, 7, 4, 9, 8, 6, 11, 101, 9973, 2 + x] (by simp)) (fun d rt' hd => ?_)) | ((first | refine zV ?_) <;> conv => whnf) | fail
 obtain ⟨y, a2, h2, hy, ha2, rfl, rfl⟩ := hd
 refine ⟨rfl, by simp, ?_⟩
 conv => whnf
 repeat' first | ((first | refine z0 ?_ | (refine zP (fun h => ?_) (fun h => ?_) <;> (try simp only [aB, aE] at h)) | refine zS ?_ | refine zV ?_ | (apply zI; refine zP aM ?_) | (apply zI; refine zP aG ?_) | refine zA ?_ | refine Alt.fst ?_ | refine Or.inl ?_) <;> conv => whnf) | fail
 have hy2 : 2 ≤ y ∧ y ≤ 9973 := by
   simp only [List.mem_cons, List.not_mem_nil, or_false] at hy
   omega
 refine ⟨aA y, [none, some (aN o l a2 h2)], ⟨y, a2, h2, hy2, ha2, rfl, rfl⟩, aC.of (kp := 2) [none, some 1] ?_⟩
 conv => whnf
 repeat' ((first | refine z1 ?_ | refine zV ?_ | refine zP ?_ ?_ | exact trivial) <;> try (conv => whnf))
theorem Akq (hm : Md m) (o : Bool) (l : List Nat) (hb : ∀ b ∈ l, b < 256) (hl : l.length ≤ 4611686018427387904) (a : Nat) (ha : a ≤ l.length) (hs : Int) (n : Nat) (hn : 2 ≤ n ∧ n ≤ 11) {d : Int} (hd : d + 1 = n) :
   cN Tryz.prog 150 2 [.ptr 1 [] 0, aA m, aA d] [none, some (aN o l a hs)]
     (fun d rt => ∃ (f : PS (Zm m)) (a' : Nat) (h' : Int), (f.c 0 = 0 ∧ f.c 1 = 1) ∧ a' ≤ l.length ∧ d = .ref 2 [] 1 0 n ∧ rt = [none, some (aN o l a' h'), some ⟨false, 1, ints (L n f)⟩]) := by
 have hm1 := hm.1
 have hm2 := hm.2
 refine dY Tryz.tabOk aF 2 _ Tryz.func150 rfl rfl ?_
 conv => whnf
 repeat' first | ((first | refine z0 ?_ | (refine zP (fun h => ?_) (fun h => ?_) <;> (try simp only [aB, aE] at h)) | refine zS ?_ | refine zV ?_ | (apply zI; refine zP aM ?_) | (apply zI; refine zP aG ?_) | refine zA ?_ | refine Alt.fst ?_ | refine Or.inl ?_) <;> conv => whnf) | fail
 refine aZ Tryz.tabOk aF (α := List Int × Nat × Int) (fun u => [(8, aA u.1.length), (7, .ref 2 [] 1 0 u.1.length), (9, .undef)]) (fun u => [(1, some (aN o l u.2.1 u.2.2)), (2, some ⟨false, 1, ints u.1⟩)]) (fun u => (2 ≤ u.1.length ∧ u.1.length ≤ n) ∧ (u.1.getD 0 0 = 0 ∧ u.1.getD 1 0 = 1) ∧ Nums m u.1 ∧ u.2.1 ≤ l.length) (fun u => n - u.1.length) (([0, 1], a, hs)) ?_ ?_ ?_
 · exact ⟨⟨by simp, by simpa using hn.1⟩, ⟨rfl, rfl⟩, fun x hx => by simp at hx; omega, ha⟩
 · conv => whnf
   first | refine aH.autoR ?_ | refine aC.autoR ?_
   conv => whnf
   repeat' ((first | refine z1 ?_ | refine z2 ?_ | refine zV ?_ | refine zP ?_ ?_ | exact trivial) <;> try (conv => whnf))
 intro u hu
 obtain ⟨us, a0, h0⟩ := u
 obtain ⟨⟨hu1, hu2⟩, ⟨hu3, hu4⟩, hu5, ha0⟩ := hu
 simp only at hu1 hu2 hu3 hu4 hu5 ha0
 conv => whnf
 by_cases hlt : us.length < n
 · repeat' first | (refine bD [1] (cW o l hb hl a0 ha0 h0 m) (fun d rt' hd => ?_)) | ((first | (refine zP (fun h => ?_) (fun h => ?_) <;> (try simp only [aB, aE] at h) <;> first | (exfalso; omega) | skip)) <;> conv => whnf) | fail
   obtain ⟨x, a1, h1, hx, ha1, rfl, rfl⟩ := hd
   refine ⟨rfl, by simp, ?_⟩
   conv => whnf
   have hx2 := hx.2 (by omega)
   repeat' first | (refine bD [1] (cW o l hb hl a1 ha1 h1 m) (fun d rt' hd => ?_)) | fail
   obtain ⟨y, a2, h2, hy, ha2, rfl, rfl⟩ := hd
   refine ⟨rfl, by simp, ?_⟩
   conv => whnf
   have hy2 := hy.2 (by omega)
   repeat' first | (refine bD [1, 3] (jM o l hb hl a2 ha2 h2 [0, 0, x, y] (by simp)) (fun d rt' hd => ?_)) | fail
   obtain ⟨z, a3, h3, hz, ha3, rfl, rfl⟩ := hd
   refine ⟨rfl, by simp, ?_⟩
   conv => whnf
   have hz2 : 0 ≤ z ∧ z < m := by
     simp only [List.mem_cons, List.not_mem_nil, or_false] at hz
     omega
   repeat' first | ((first | refine z0 ?_ | (refine zP (fun h => ?_) (fun h => ?_) <;> (try simp only [aB, aE] at h) <;> first | (exfalso; omega) | skip) | refine zS ?_ | refine zV ?_ | (apply zI; refine zP aM ?_) | (apply zI; refine zP aG ?_)) <;> conv => whnf) | fail
   refine Exists.intro (us ++ [z], a3, h3) (zP ⟨⟨by simp only [List.length_append, List.length_singleton]; omega, by simp only [List.length_append, List.length_singleton]; omega⟩, ⟨by rw [Aab (by omega)]; exact hu3, by rw [Aab (by omega)]; exact hu4⟩, Agc hu5 hz2, ha3⟩ (zP (by simp only [List.length_append, List.length_singleton]; omega) ?_))
   first | refine aH.autoR ?_ | refine aC.autoR ?_
   conv => whnf
   repeat' ((first | refine z1 ?_ | refine z2 ?_ | refine zV ?_ | refine zP ?_ ?_ | exact trivial) <;> try (conv => whnf))
   all_goals simp [ints]
 · repeat' first | ((first | refine z0 ?_ | (refine zP (fun h => ?_) (fun h => ?_) <;> (try simp only [aB, aE] at h) <;> first | (exfalso; omega) | skip) | refine zS ?_ | refine zV ?_ | (apply zI; refine zP aM ?_) | (apply zI; refine zP aG ?_)) <;> conv => whnf) | fail
   have hl2 : us.length = n := by omega
   have e := uE hu5
   rw [hl2] at e
   refine ⟨.ref 2 [] 1 0 n, [none, some (aN o l a0 h0), some ⟨false, 1, ints (L n (rd m us))⟩], ⟨rd m us, a0, h0, ⟨by rw [rd_c, hu3]; rfl, by rw [rd_c, hu4]; rfl⟩, ha0, rfl, rfl⟩, aC.of (kp := 2) [none, some 1, some 2] ?_⟩
   conv => whnf
   repeat' ((first | refine z1 ?_ | refine zV ?_ | refine zP ?_ ?_ | exact trivial) <;> try (conv => whnf))
   all_goals first | exact hl2 | rw [e]
theorem Arr (hm : Md m) (o : Bool) (l : List Nat) (hb : ∀ b ∈ l, b < 256) (hl : l.length ≤ 4611686018427387904) (a : Nat) (ha : a ≤ l.length) (hs : Int) :
   cN Tryz.prog 224 2 [.ptr 1 [] 0, aA m] [none, some (aN o l a hs)]
     (fun d rt => ∃ (f : PS (Zm m)) (a' : Nat) (h' : Int), a' ≤ l.length ∧ d = .ref 2 [] 1 0 5 ∧ rt = [none, some (aN o l a' h'), some ⟨false, 1, ints (L 5 f)⟩]) := by
 have hm1 := hm.1
 have hm2 := hm.2
 refine dY Tryz.tabOk aF 2 _ Tryz.func224 rfl rfl ?_
 conv => whnf
 repeat' first | ((first | refine z0 ?_ | (refine zP (fun h => ?_) (fun h => ?_) <;> (try simp only [aB, aE] at h)) | refine zS ?_ | refine zV ?_ | (apply zI; refine zP aM ?_) | (apply zI; refine zP aG ?_) | refine zA ?_ | refine Alt.fst ?_ | refine Or.inl ?_) <;> conv => whnf) | fail
 refine aZ Tryz.tabOk aF (α := List Int × Nat × Int) (fun u => [(6, aA u.1.length), (5, .ref 2 [] 1 0 u.1.length), (7, .undef)]) (fun u => [(1, some (aN o l u.2.1 u.2.2)), (2, some ⟨false, 1, ints u.1⟩)]) (fun u => u.1.length ≤ 5 ∧ Nums m u.1 ∧ u.2.1 ≤ l.length) (fun u => 5 - u.1.length) (([], a, hs)) ?_ ?_ ?_
 · exact ⟨by simp, fun x hx => by simp at hx, ha⟩
 · conv => whnf
   first | refine aH.autoR ?_ | refine aC.autoR ?_
   conv => whnf
   repeat' ((first | refine z1 ?_ | refine z2 ?_ | refine zV ?_ | refine zP ?_ ?_ | exact trivial) <;> try (conv => whnf))
 intro u hu
 obtain ⟨us, a0, h0⟩ := u
 obtain ⟨hu2, hu5, ha0⟩ := hu
 simp only at hu2 hu5 ha0
 conv => whnf
 by_cases hlt : us.length < 5
 · repeat' first | (refine bD [1] (cW o l hb hl a0 ha0 h0 m) (fun d rt' hd => ?_)) | ((first | (refine zP (fun h => ?_) (fun h => ?_) <;> (try simp only [aB, aE] at h) <;> first | (exfalso; omega) | skip)) <;> conv => whnf) | fail
   obtain ⟨x, a1, h1, hx, ha1, rfl, rfl⟩ := hd
   refine ⟨rfl, by simp, ?_⟩
   conv => whnf
   have hx2 := hx.2 (by omega)
   repeat' first | (refine bD [1, 3] (jM o l hb hl a1 ha1 h1 [0, 0, 1, x] (by simp)) (fun d rt' hd => ?_)) | fail
   obtain ⟨z, a3, h3, hz, ha3, rfl, rfl⟩ := hd
   refine ⟨rfl, by simp, ?_⟩
   conv => whnf
   have hz2 : 0 ≤ z ∧ z < m := by
     simp only [List.mem_cons, List.not_mem_nil, or_false] at hz
     omega
   repeat' first | ((first | refine z0 ?_ | (refine zP (fun h => ?_) (fun h => ?_) <;> (try simp only [aB, aE] at h) <;> first | (exfalso; omega) | skip) | refine zS ?_ | refine zV ?_ | (apply zI; refine zP aM ?_) | (apply zI; refine zP aG ?_)) <;> conv => whnf) | fail
   refine Exists.intro (us ++ [z], a3, h3) (zP ⟨by simp only [List.length_append, List.length_singleton]; omega, Agc hu5 hz2, ha3⟩ (zP (by simp only [List.length_append, List.length_singleton]; omega) ?_))
   first | refine aH.autoR ?_ | refine aC.autoR ?_
   conv => whnf
   repeat' ((first | refine z1 ?_ | refine z2 ?_ | refine zV ?_ | refine zP ?_ ?_ | exact trivial) <;> try (conv => whnf))
   all_goals simp [ints]
 · repeat' first | ((first | refine z0 ?_ | (refine zP (fun h => ?_) (fun h => ?_) <;> (try simp only [aB, aE] at h) <;> first | (exfalso; omega) | skip) | refine zS ?_ | refine zV ?_ | (apply zI; refine zP aM ?_) | (apply zI; refine zP aG ?_)) <;> conv => whnf) | fail
   have hl2 : us.length = 5 := by omega
   have e := uE hu5
   rw [hl2] at e
   refine ⟨.ref 2 [] 1 0 5, [none, some (aN o l a0 h0), some ⟨false, 1, ints (L 5 (rd m us))⟩], ⟨rd m us, a0, h0, ha0, rfl, rfl⟩, aC.of (kp := 2) [none, some 1, some 2] ?_⟩
   conv => whnf
   repeat' ((first | refine z1 ?_ | refine zV ?_ | refine zP ?_ ?_ | exact trivial) <;> try (conv => whnf))
   all_goals first | exact hl2 | rw [e]
theorem qT (hm : Md m) (o p o' p' : Bool) (n : Nat) (hn : 1 ≤ n ∧ n ≤ 100) (f g : PS (PS (Zm m))) : aI Tryz.prog 223 [aA m, dK o p n f, dK o' p' n g] (dK true true n (f * g)) := by
 have hm1 := hm.1
 have hm2 := hm.2
 refine aU Tryz.tabOk aF Tryz.func223 rfl rfl ?_
 conv => whnf
 repeat' first | ((first | (apply zI; refine zP (mZ (m := m) n aD aD) ?_) | (refine zP (fun h => ?_) (fun h => ?_) <;> (try simp only [aB, aE] at h)) | refine zV ?_ | (apply zI; refine zP aM ?_) | (apply zI; refine zP aG ?_) | refine Or.inl ?_) <;> conv => whnf) | fail
 refine aZ Tryz.tabOk aF (α := Nat) (fun i => [(9, aA i), (12, .undef), (13, .undef)]) (fun i => [(0, some ⟨false, 1, rows true (Tb n (pP f g i 0))⟩)]) (fun i => i ≤ n) (fun i => n - i) (0) ?_ ?_ ?_
 · omega
 · conv => whnf
   first | refine aH.autoR ?_ | refine aC.autoR ?_
   conv => whnf
   repeat' ((first | refine z1 ?_ | refine z2 ?_ | refine zV ?_ | refine zP ?_ ?_ | exact trivial) <;> try (conv => whnf))
   all_goals rw [Z1]
 intro i hi
 conv => whnf
 repeat' first | ((first | refine z0 ?_ | (refine zP (fun h => ?_) (fun h => ?_) <;> (try simp only [aB, aE] at h)) | refine zS ?_ | refine zV ?_ | (apply zI; refine zP aM ?_) | (apply zI; refine zP aG ?_) | refine zA ?_ | refine Alt.fst ?_ | refine Or.inl ?_) <;> conv => whnf) | fail
 · refine aZ Tryz.tabOk aF (α := Nat) (fun j => [(10, aA j), (12, .undef), (13, .undef)]) (fun j => [(0, some ⟨false, 1, rows true (Tb n (pP f g i j))⟩)]) (fun j => j ≤ n - i) (fun j => n - j) (0) ?_ ?_ ?_
   · omega
   · conv => whnf
     first | refine aH.autoR ?_ | refine aC.autoR ?_
     conv => whnf
     repeat' ((first | refine z1 ?_ | refine z2 ?_ | refine zV ?_ | refine zP ?_ ?_ | exact trivial) <;> try (conv => whnf))
   intro j hj
   conv => whnf
   repeat' first | ((first | refine z0 ?_ | (refine zP (fun h => ?_) (fun h => ?_) <;> (try simp only [aB, aE] at h)) | refine zS ?_ | refine zV ?_ | (apply zI; refine zP aM ?_) | (apply zI; refine zP aG ?_) | refine zA ?_ | refine Alt.fst ?_ | refine Or.inl ?_) <;> conv => whnf) | fail
   · refine Exists.intro (j + 1) (zP aD (zP aD ?_))
     first | refine aH.autoR ?_ | refine aC.autoR ?_
     conv => whnf
     repeat' ((first | refine z1 ?_ | refine z2 ?_ | refine zV ?_ | refine zP ?_ ?_ | exact trivial) <;> try (conv => whnf))
     rw [Abx f g i j (Zm.val_eq_zero.1 (by assumption))]
   · refine aZ Tryz.tabOk aF (α := Nat) (fun k => [(11, aA k), (12, .undef), (13, .undef)]) (fun k => [(0, some ⟨false, 1, rows true (Tb n (pQ f g i j k 0))⟩)]) (fun k => i + j + k ≤ n) (fun k => n - k) (0) ?_ ?_ ?_
     · exact aD
     · conv => whnf
       first | refine aH.autoR ?_ | refine aC.autoR ?_
       conv => whnf
       repeat' ((first | refine z1 ?_ | refine z2 ?_ | refine zV ?_ | refine zP ?_ ?_ | exact trivial) <;> try (conv => whnf))
       all_goals rw [Abz]
     intro k hk
     conv => whnf
     repeat' first | ((first | refine z0 ?_ | (refine zP (fun h => ?_) (fun h => ?_) <;> (try simp only [aB, aE] at h)) | refine zS ?_ | refine zV ?_ | (apply zI; refine zP aM ?_) | (apply zI; refine zP aG ?_) | refine zA ?_ | refine Alt.fst ?_ | refine Or.inl ?_) <;> conv => whnf) | fail
     · refine aZ Tryz.tabOk aF (α := Nat) (fun l => [(14, aA l)]) (fun l => [(0, some ⟨false, 1, rows true (Tb n (pQ f g i j k l))⟩)]) (fun l => i + j + k + l ≤ n) (fun l => n - l) (0) ?_ ?_ ?_
       · exact aD
       · conv => whnf
         first | refine aH.autoR ?_ | refine aC.autoR ?_
         conv => whnf
         repeat' ((first | refine z1 ?_ | refine z2 ?_ | refine zV ?_ | refine zP ?_ ?_ | exact trivial) <;> try (conv => whnf))
       intro l hll
       conv => whnf
       have hx1 := Zm.val_range hm.pos (((pQ f g i j k l).c (i + k)).c (j + l))
       have hx2 := hm.mul ((f.c i).c j) ((g.c k).c l)
       repeat' first | ((first | refine z0 ?_ | (refine zP (fun h => ?_) (fun h => ?_) <;> (try simp only [aB, aE] at h)) | refine zS ?_ | refine zV ?_ | (apply zI; refine zP aM ?_) | (apply zI; refine zP aG ?_) | refine zA ?_ | refine Alt.fst ?_ | refine Or.inl ?_) <;> conv => whnf) | fail
       · refine Exists.intro (l + 1) (zP aD (zP aD ?_))
         first | refine aH.autoR ?_ | refine aC.autoR ?_
         conv => whnf
         repeat' ((first | refine z1 ?_ | refine z2 ?_ | refine zV ?_ | refine zP ?_ ?_ | exact trivial) <;> try (conv => whnf))
         exact cC (fM _ (uU hm _ _ _) aD (aW.of_eq (Ai1 f g i j k l).symm))
       · refine Exists.intro (k + 1) (zP aD (zP aD ?_))
         first | refine aH.autoR ?_ | refine aC.autoR ?_
         conv => whnf
         repeat' ((first | refine z1 ?_ | refine z2 ?_ | refine zV ?_ | refine zP ?_ ?_ | exact trivial) <;> try (conv => whnf))
         exact cC (jW (Aa4 f g aD))
     · refine Exists.intro (j + 1) (zP aD (zP aD ?_))
       first | refine aH.autoR ?_ | refine aC.autoR ?_
       conv => whnf
       repeat' ((first | refine z1 ?_ | refine z2 ?_ | refine zV ?_ | refine zP ?_ ?_ | exact trivial) <;> try (conv => whnf))
       exact cC (jW (Afe f g aD))
   · refine Exists.intro (i + 1) (zP aD (zP aD ?_))
     first | refine aH.autoR ?_ | refine aC.autoR ?_
     conv => whnf
     repeat' ((first | refine z1 ?_ | refine z2 ?_ | refine zV ?_ | refine zP ?_ ?_ | exact trivial) <;> try (conv => whnf))
     exact cC (jW (Ai7 f g aD))
 · exact sI (jW (Ab7 f g aD))
theorem Anm (a : PS (Zm m)) (f : PS (PS (Zm m))) (k t : Nat) : cY (comp2N a f (k + 1) t * f) 0 0 ((((comp2N a f (k + 1) t * f).c 0).c 0) + a.c k) = comp2N a f k (t + 1) := by
 rw [← Aif]
 refine yZ (fun i j => ?_)
 rw [H7, add_c, add_c, cO]
 by_cases h : i = 0
 · rw [if_pos h, cO]
   by_cases h2 : j = 0
   · rw [if_pos ⟨h, h2⟩, if_pos h2, h, h2]
   · rw [if_neg (fun x => h2 x.2), if_neg h2]; exact (Go.Fg.add_zero _).symm
 · rw [if_neg (fun x => h x.1), if_neg h]; exact (Go.Fg.add_zero _).symm
theorem zN (hm : Md m) (o o' p : Bool) (n : Nat) (hn : 1 ≤ n ∧ n ≤ 100) (k : Nat) (hk : k ≤ 100) (a : PS (Zm m)) (f : PS (PS (Zm m))) : aI Tryz.prog 229 [aA m, LD o k a, dK o' p n f] (dK true true n (comp2N a f 0 k)) := by
 have hm1 := hm.1
 have hm2 := hm.2
 refine aU Tryz.tabOk aF Tryz.func229 rfl rfl ?_
 conv => whnf
 repeat' first | ((first | (apply zI; refine zP (mZ (m := m) n aD aD) ?_) | (refine zP (fun h => ?_) (fun h => ?_) <;> (try simp only [aB, aE] at h)) | refine zV ?_ | (apply zI; refine zP aM ?_) | (apply zI; refine zP aG ?_) | refine Or.inl ?_) <;> conv => whnf) | fail
 refine aZ Tryz.tabOk aF (α := Nat) (fun t => [(8, aA ((k : Int) - 1 - t)), (7, .ref 0 [] 1 0 n), (9, .undef), (13, .undef)]) (fun t => [(0, some ⟨false, 1, rows true (Tb n (comp2N a f (k - t) t))⟩)]) (fun t => t ≤ k) (fun t => k - t) (0) ?_ ?_ ?_
 · omega
 · conv => whnf
   first | refine aH.autoR ?_ | refine aC.autoR ?_
   conv => whnf
   repeat' ((first | refine z1 ?_ | refine z2 ?_ | refine zV ?_ | refine zP ?_ ?_ | exact trivial) <;> try (conv => whnf))
 intro t ht
 conv => whnf
 have hx1 := Zm.val_range hm.pos (((comp2N a f (k - t) t * f).c 0).c 0)
 have hx2 := Zm.val_range hm.pos (a.c ((k : Int) - 1 - t).toNat)
 repeat' first | ((first | refine z0 ?_ | (apply zI; refine zP (qT hm _ _ _ _ n aD _ _) ?_) | (refine zP (fun h => ?_) (fun h => ?_) <;> (try simp only [aB, aE] at h)) | refine zS ?_ | refine zV ?_ | (apply zI; refine zP aM ?_) | (apply zI; refine zP aG ?_) | refine Or.inl ?_) <;> conv => whnf) | fail
 · refine Exists.intro (t + 1) (zP aD (zP aD ?_))
   first | refine aH.autoR ?_ | refine aC.autoR ?_
   conv => whnf
   repeat' ((first | refine z1 ?_ | refine z2 ?_ | refine zV ?_ | refine zP ?_ ?_ | exact trivial) <;> try (conv => whnf))
   have e : ((k : Int) - 1 - t).toNat = k - (t + 1) := by omega
   have e2 : k - t = k - (t + 1) + 1 := by omega
   rw [e, e2]
   exact cC (fM _ (vK hm _ _) (by omega) (aW.of_eq (Anm a f (k - (t + 1)) t)))
 · exact sI (by rw [show k = t by omega, Nat.sub_self])
def fA (n : Nat) (a : PS (Zm m)) : Nat → List D
 | 0 => []
 | k + 1 => fA n a k ++ [aA m, .list true 1 (ints (L n (pw a k)))]
@[simp] theorem Aco (n : Nat) (a : PS (Zm m)) (k : Nat) : (fA n a k).length = 2 * k := by
 induction k with
 | zero => rfl
 | succ k ih => simp only [fA, List.length_append, ih, List.length_cons, List.length_nil]; omega
theorem Agw (n : Nat) (a : PS (Zm m)) {k i : Nat} (h : i < k) : (fA n a k)[2 * i]? = some (aA m) ∧ (fA n a k)[2 * i + 1]? = some (.list true 1 (ints (L n (pw a i)))) := by
 induction k with
 | zero => omega
 | succ k ih =>
   rcases Nat.lt_or_ge i k with h' | h'
   · simp only [fA]
     rw [List.getElem?_append_left (by simp; omega), List.getElem?_append_left (by simp; omega)]
     exact ih h'
   · have : i = k := by omega
     subst this
     simp only [fA]
     rw [List.getElem?_append_right (by simp), List.getElem?_append_right (by simp), Aco, show 2 * i - 2 * i = 0 by omega, show 2 * i + 1 - 2 * i = 1 by omega]
     exact ⟨rfl, rfl⟩
theorem Al4 (n : Nat) (a : PS (Zm m)) (k : Nat) : cnt 2 (fA n a k) = k := by simp [cnt]
theorem I4 {n k q : Nat} {a : PS (Zm m)} (i : Nat) (e : q = 2 * i) (h : i < k) : Q1 (fA n a k) [] q 2 [aA m, .list true 1 (ints (L n (pw a i)))] := by
 subst e
 refine ⟨_, rfl, ?_, rfl⟩
 have h1 := Agw n a h
 have l1 : 2 * i < (fA n a k).length := by simp; omega
 have l2 : 2 * i + 1 < (fA n a k).length := by simp; omega
 rw [List.getElem?_eq_getElem l1, List.getElem?_eq_getElem l2] at h1
 rw [List.drop_eq_getElem_cons l1, List.drop_eq_getElem_cons l2, Option.some.inj h1.1, Option.some.inj h1.2]
 rfl
theorem T6 {n k q : Nat} {a : PS (Zm m)} (i : Nat) (e : q = 2 * i + 1) (h : i < k) : bE (fA n a k) ([] ++ [q]) = some (ints (L n (pw a i))) := by
 subst e
 show (match (fA n a k)[2 * i + 1]? with | some (.list true _ cs') => bE cs' [] | _ => none) = _
 rw [(Agw n a h).2]
 rfl
theorem Ang {n k q : Nat} {a : PS (Zm m)} (h : q = 2 * k) : q = (fA n a k).length := by rw [Aco]; exact h
theorem Awn {n k i : Nat} {a : PS (Zm m)} (h : i < k) : 0 ≤ (i : Int) ∧ (i : Int) < (cnt 2 (fA n a k) : Nat) := by rw [Al4]; omega
theorem Awc (x : Value) (cs : List D) (h : D.one (.lit x) = true := by rfl) : ∀ d ∈ [D.lit x, D.list true 1 cs], d.one = true := fun d hd => by
 simp only [List.mem_cons, List.not_mem_nil, or_false] at hd
 rcases hd with rfl | rfl
 · exact h
 · rfl
theorem Alu (n : Nat) (a : PS (Zm m)) (k : Nat) : ∀ x ∈ fA n a k, PlainD x := by
 induction k with
 | zero => intro x hx; simp [fA] at hx
 | succ k ih =>
   intro x hx
   simp only [fA, List.mem_append, List.mem_cons, List.not_mem_nil, or_false] at hx
   rcases hx with hx | rfl | rfl
   · exact ih x hx
   · exact .lit _
   · exact .list _ _ (kD _)
theorem Atw {n : Nat} (h : n ≤ 1000000) : gK n 32 := ⟨by omega, by omega⟩
def hY (f : PS (PS (Zm m))) (a b : PS (Zm m)) (n i j : Nat) : PS (Zm m) :=
 sm i (fun i => sm (n - i) fun j => PS.C ((f.c i).c j) * (pw a i * pw b j)) + sm j fun j => PS.C ((f.c i).c j) * (pw a i * pw b j)
def cT (f : PS (PS (Zm m))) (a b : PS (Zm m)) (n : Nat) : PS (Zm m) := hY f a b n n 0
theorem Atb (f : PS (PS (Zm m))) (a b : PS (Zm m)) (n : Nat) : hY f a b n 0 0 = 0 := by
 unfold hY; exact CR.zero_add _
theorem Abn (f : PS (PS (Zm m))) (a b : PS (Zm m)) (n i j : Nat) : hY f a b n i (j + 1) = hY f a b n i j + PS.C ((f.c i).c j) * (pw a i * pw b j) := by
 unfold hY; rw [bF, CR.add_assoc]
theorem Atk (f : PS (PS (Zm m))) (a b : PS (Zm m)) (n i j : Nat) (h : (f.c i).c j = 0) : hY f a b n i (j + 1) = hY f a b n i j := by
 rw [Abn, h, PS.C_zero, Go.Fg.zero_mul, Go.Fg.add_zero]
theorem Auz (f : PS (PS (Zm m))) (a b : PS (Zm m)) {n i j : Nat} (h : j = n - i) : hY f a b n i j = hY f a b n (i + 1) 0 := by
 subst h
 unfold hY
 rw [bF]
 exact (Go.Fg.add_zero _).symm
theorem yO {f : PS (PS (Zm m))} {a b : PS (Zm m)} {n : Nat} (hf : (f.c 0).c 0 = 0) (ha : a.c 0 = 0) (hb : b.c 0 = 0) : (cT f a b n).c 0 = 0 := by
 unfold cT hY
 rw [PS.add_c, PS.sm_c]
 have hp : ∀ (x : PS (Zm m)) (k : Nat), x.c 0 = 0 → (pw x (k + 1)).c 0 = 0 := fun x k hx => by rw [bX, PS.mul_c0, hx, Go.Fg.mul_zero]
 have e1 : sm n (fun i => (sm (n - i) fun j => PS.C ((f.c i).c j) * (pw a i * pw b j)).c 0) = 0 := cH fun i _ => by
   rw [PS.sm_c]
   refine cH fun j _ => ?_
   rw [PS.C_mul, PS.mul_c0]
   cases i with
   | succ i => rw [hp a i ha, Go.Fg.zero_mul, Go.Fg.mul_zero]
   | zero => cases j with
     | succ j => rw [hp b j hb, Go.Fg.mul_zero, Go.Fg.mul_zero]
     | zero => rw [hf, Go.Fg.zero_mul]
 rw [e1]
 exact CR.zero_add _
theorem Akd (hm : Md m) (o : Bool) (n : Nat) (hn : 1 ≤ n ∧ n ≤ 100) (a : PS (Zm m)) : aI Tryz.prog 237 [bQ m o n a] (.list true 2 (fA n a n)) := by
 have hm1 := hm.1
 have hm2 := hm.2
 refine aU Tryz.tabOk aF Tryz.func237 rfl rfl ?_
 conv => whnf
 repeat' first | ((first | (apply zI; refine zP (nG _ _ aD _) ?_) | (apply zI; refine zP (xH hm _ n aD _ _) ?_) | refine zV ?_ | refine Or.inl ?_) <;> conv => whnf) | fail
 refine aZ Tryz.tabOk aF (α := Nat) (fun i => [(9, aA i), (3, .ref 3 [] 2 0 (i + 1)), (5, .undef), (6, .undef)]) (fun i => [(3, some ⟨false, 2, fA n a (i + 1)⟩)]) (fun i => i + 1 ≤ n) (fun i => n - i) (0) ?_ ?_ ?_
 · omega
 · conv => whnf
   first | refine aH.autoR ?_ | refine aC.autoR ?_
   conv => whnf
   repeat' ((first | refine z1 ?_ | refine zV ?_ | refine zP ?_ ?_ | exact trivial) <;> try (conv => whnf))
 intro i hi
 conv => whnf
 repeat' first | ((first | refine z0 ?_ | (apply zI; refine zP (I4 i (by first | (simp [place]; done) | (simp [place]; omega)) aD) ?_) | (apply zI; refine zP (T6 i (by first | (simp [place]; done) | (simp [place]; omega)) aD) ?_) | (apply zI; refine zP (N5 hm _ _ n aD (pw a i) a) ?_) | (refine zP (fun h => ?_) (fun h => ?_) <;> (try simp only [aB, aE] at h)) | refine zS ?_ | refine zV ?_ | (apply zI; refine zP aG ?_) | refine zP (Atw aD) ?_ | refine zP (Ang (by omega)) ?_ | refine zP (Awc _ _) ?_ | refine zP (Alu _ _ _) ?_ | refine Alt.fst ?_ | refine Or.inl ?_) <;> conv => whnf) | fail
 · refine Exists.intro (i + 1) (zP aD (zP aD ?_))
   first | refine aH.autoR ?_ | refine aC.autoR ?_
   conv => whnf
   repeat' ((first | refine z1 ?_ | refine zV ?_ | refine zP ?_ ?_ | exact trivial) <;> try (conv => whnf))
 · rw [show i + 1 = n by omega]
theorem uB (hm : Md m) (o p o' o2 : Bool) (n : Nat) (hn : 1 ≤ n ∧ n ≤ 100) (f : PS (PS (Zm m))) (a b : PS (Zm m)) : aI Tryz.prog 130 [dO m o p n f, bQ m o' n a, bQ m o2 n b] (bQ m true n (cT f a b n)) := by
 have hm1 := hm.1
 have hm2 := hm.2
 refine aU Tryz.tabOk aF Tryz.func130 rfl rfl ?_
 conv => whnf
 repeat' first | ((first | (apply zI; refine zP (xH hm _ n aD _ _) ?_) | (apply zI; refine zP (Akd hm _ n aD _) ?_) | refine zS ?_ | refine Alt.fst ?_ | refine Or.inl ?_) <;> conv => whnf) | fail
 refine aZ Tryz.tabOk aF (α := Nat) (fun i => [(23, aA i), (11, .undef), (15, .undef)]) (fun i => [(5, some ⟨false, 1, ints (L n (hY f a b n i 0))⟩), (8, some ⟨true, 1, [aA m, .ref 5 [] 1 0 n]⟩)]) (fun i => i ≤ n) (fun i => n - i) (0) ?_ ?_ ?_
 · omega
 · conv => whnf
   first | refine aH.autoR ?_ | refine aC.autoR ?_
   conv => whnf
   repeat' ((first | refine z1 ?_ | refine zV ?_ | refine zP ?_ ?_ | exact trivial) <;> try (conv => whnf))
   all_goals (rw [Atb]; exact cJ (cV (Ag.of_eq PS.C_zero)))
 intro i hi
 conv => whnf
 repeat' first | ((first | refine z0 ?_ | (refine zP (fun h => ?_) (fun h => ?_) <;> (try simp only [aB, aE] at h)) | refine zS ?_ | refine zV ?_ | (apply zI; refine zP aM ?_) | (apply zI; refine zP aG ?_) | refine zA ?_ | refine Alt.fst ?_ | refine Or.inl ?_) <;> conv => whnf) | fail
 · refine aZ Tryz.tabOk aF (α := Nat) (fun j => [(30, aA j)]) (fun j => [(5, some ⟨false, 1, ints (L n (hY f a b n i j))⟩), (8, some ⟨true, 1, [aA m, .ref 5 [] 1 0 n]⟩)]) (fun j => j ≤ n - i) (fun j => n - j) (0) ?_ ?_ ?_
   · omega
   · conv => whnf
     first | refine aH.autoR ?_ | refine aC.autoR ?_
     conv => whnf
     repeat' ((first | refine z1 ?_ | refine zV ?_ | refine zP ?_ ?_ | exact trivial) <;> try (conv => whnf))
   intro j hj
   conv => whnf
   repeat' first | ((first | (apply zI; refine zP (I4 i (by first | (simp [place]; done) | (simp [place]; omega)) aD) ?_) | (apply zI; refine zP (T6 i (by first | (simp [place]; done) | (simp [place]; omega)) aD) ?_) | (apply zI; refine zP (I4 j (by first | (simp [place]; done) | (simp [place]; omega)) aD) ?_) | (apply zI; refine zP (T6 j (by first | (simp [place]; done) | (simp [place]; omega)) aD) ?_) | (apply zI; refine zP (N5 hm _ _ n aD (pw a i) (pw b j)) ?_) | (apply zI; refine zP (Aoc hm _ n aD _ _) ?_) | (apply zI; refine zP (Ai6 hm _ _ n aD _ _) ?_) | (refine zP (fun h => ?_) (fun h => ?_) <;> (try simp only [aB, aE] at h)) | refine zS ?_ | refine zV ?_ | (apply zI; refine zP aG ?_) | refine zP (Awn aD) ?_ | refine Alt.fst ?_ | refine Or.inl ?_) <;> conv => whnf) | fail
   · refine Exists.intro (j + 1) (zP aD (zP aD ?_))
     first | refine aH.autoR ?_ | refine aC.autoR ?_
     conv => whnf
     repeat' ((first | refine z1 ?_ | refine zV ?_ | refine zP ?_ ?_ | exact trivial) <;> try (conv => whnf))
     refine cJ (cV (Ag.of_eq ?_))
     rw [Abn, Zm.mk_val]
   · have he := Zm.val_eq_zero.1 (Classical.not_not.1 h)
     refine Exists.intro (j + 1) (zP aD (zP aD ?_))
     first | refine aH.autoR ?_ | refine aC.autoR ?_
     conv => whnf
     repeat' ((first | refine z1 ?_ | refine zV ?_ | refine zP ?_ ?_ | exact trivial) <;> try (conv => whnf))
     exact cJ (cV (Ag.of_eq (Atk f a b n i j he).symm))
   · have hji : j = n - i := by simp only [aT] at *; omega
     refine Exists.intro (i + 1) (zP aD (zP aD ?_))
     first | refine aH.autoR ?_ | refine aC.autoR ?_
     conv => whnf
     repeat' ((first | refine z1 ?_ | refine zV ?_ | refine zP ?_ ?_ | exact trivial) <;> try (conv => whnf))
     exact cJ (cV (Ag.of_eq (Auz f a b hji)))
 · exact congrArg (fun x => D.agg [aA m, .list true 1 (ints (L n x))]) (by rw [show i = n by simp only [aQ, aV] at *; omega]; rfl)
theorem U5 (hm : Md m) (o o' : Bool) (n : Nat) (hn : n ≤ 100) (a b : PS (Zm m)) : aI Tryz.prog 300 [aA m, LD o n a, LD o' n b] (LD true n (a + b)) := by
 have hm1 := hm.1
 have hm2 := hm.2
 refine aU Tryz.tabOk aF Tryz.func300 rfl rfl ?_
 conv => whnf
 repeat' first | ((first | refine z0 ?_ | (refine zP (fun h => ?_) (fun h => ?_) <;> (try simp only [aB, aE] at h)) | refine zS ?_ | refine zV ?_ | (apply zI; refine zP aM ?_) | (apply zI; refine zP aG ?_) | refine zA ?_ | refine Alt.fst ?_ | refine Or.inl ?_) <;> conv => whnf) | fail
 refine aZ Tryz.tabOk aF (α := Nat) (fun i => [(8, aA i), (7, .ref 0 [] 1 0 i), (9, .undef)]) (fun i => [(0, some ⟨false, 1, ints (L i (a + b))⟩)]) (fun i => i ≤ n) (fun i => n - i) (0) ?_ ?_ ?_
 · omega
 · conv => whnf
   first | refine aH.autoR ?_ | refine aC.autoR ?_
   conv => whnf
   repeat' ((first | refine z1 ?_ | refine zV ?_ | refine zP ?_ ?_ | exact trivial) <;> try (conv => whnf))
 intro i hi
 conv => whnf
 have h1 := Zm.val_range hm.pos (a.c i)
 have h2 := Zm.val_range hm.pos (b.c i)
 repeat' first | ((first | refine z0 ?_ | (refine zP (fun h => ?_) (fun h => ?_) <;> (try simp only [aB, aE] at h)) | refine zS ?_ | refine zV ?_ | (apply zI; refine zP aM ?_) | (apply zI; refine zP aG ?_) | refine zA ?_ | refine Alt.fst ?_ | refine Or.inl ?_) <;> conv => whnf) | fail
 · refine Exists.intro (i + 1) (zP aD (zP aD ?_))
   first | refine aH.autoR ?_ | refine aC.autoR ?_
   conv => whnf
   repeat' ((first | refine z1 ?_ | refine zV ?_ | refine zP ?_ ?_ | exact trivial) <;> try (conv => whnf))
   exact cJ (oJ (vK hm _ _))
 · rw [show i = n by simp only [aT] at *; omega]
theorem Ac1 (o : Bool) (l : List Int) (hl : l.length ≤ 1048576) : aI Tryz.prog 133 [.list o 1 (ints l)] (.list true 1 (ints l)) := by
 refine aU Tryz.tabOk aF Tryz.func133 rfl rfl ?_
 conv => whnf
 repeat' first | ((first | refine z0 ?_ | (refine zP (fun h => ?_) (fun h => ?_) <;> (try simp only [aB, aE] at h)) | refine zS ?_ | refine zV ?_ | (apply zI; refine zP aM ?_) | (apply zI; refine zP aG ?_) | refine zA ?_ | refine Alt.fst ?_ | refine Or.inl ?_) <;> conv => whnf) | fail
 rfl
theorem N2 (hm : Md m) (o : Bool) (n : Nat) (hn : n ≤ 100) (z : Zm m) (a : PS (Zm m)) : aI Tryz.prog 301 [aA m, aA z.val, LD o n a] (LD true n (PS.C z * a)) := by
 have hm1 := hm.1
 have hm2 := hm.2
 refine aU Tryz.tabOk aF Tryz.func301 rfl rfl ?_
 conv => whnf
 repeat' first | ((first | refine z0 ?_ | (refine zP (fun h => ?_) (fun h => ?_) <;> (try simp only [aB, aE] at h)) | refine zS ?_ | refine zV ?_ | (apply zI; refine zP aM ?_) | (apply zI; refine zP aG ?_) | refine zA ?_ | refine Alt.fst ?_ | refine Or.inl ?_) <;> conv => whnf) | fail
 refine aZ Tryz.tabOk aF (α := Nat) (fun i => [(8, aA i), (7, .ref 0 [] 1 0 i), (9, .undef)]) (fun i => [(0, some ⟨false, 1, ints (L i (PS.C z * a))⟩)]) (fun i => i ≤ n) (fun i => n - i) (0) ?_ ?_ ?_
 · omega
 · conv => whnf
   first | refine aH.autoR ?_ | refine aC.autoR ?_
   conv => whnf
   repeat' ((first | refine z1 ?_ | refine zV ?_ | refine zP ?_ ?_ | exact trivial) <;> try (conv => whnf))
 intro i hi
 conv => whnf
 have h1 := hm.mul z (a.c i)
 repeat' first | ((first | refine z0 ?_ | (refine zP (fun h => ?_) (fun h => ?_) <;> (try simp only [aB, aE] at h)) | refine zS ?_ | refine zV ?_ | (apply zI; refine zP aM ?_) | (apply zI; refine zP aG ?_) | refine zA ?_ | refine Alt.fst ?_ | refine Or.inl ?_) <;> conv => whnf) | fail
 · refine Exists.intro (i + 1) (zP aD (zP aD ?_))
   first | refine aH.autoR ?_ | refine aC.autoR ?_
   conv => whnf
   repeat' ((first | refine z1 ?_ | refine zV ?_ | refine zP ?_ ?_ | exact trivial) <;> try (conv => whnf))
   exact cJ (oJ (by rw [mR hm, PS.C_mul]))
 · rw [show i = n by simp only [aT] at *; omega]
def iG (n : Nat) (a : PS (Zm m)) (k : Nat) : List (List Int) := (List.range k).map fun i => L n (pw a i)
@[simp] theorem Abh (n : Nat) (a : PS (Zm m)) (k : Nat) : (iG n a k).length = k := by simp [iG]
theorem L7 {n k i : Nat} {a : PS (Zm m)} (h : i < k) : (iG n a k).getD i [] = L n (pw a i) := by simp [iG, h]
theorem Avu {n k : Nat} {a : PS (Zm m)} {l : List Int} (h : l = L n (pw a k)) : iG n a k ++ [l] = iG n a (k + 1) := by subst h; simp [iG, List.range_succ]
theorem Asd {n q k : Nat} {a : PS (Zm m)} (h : q = k) : q = (rows true (iG n a k)).length := by rw [aQ, Abh]; exact h
theorem Ah7 {n k i : Nat} {a : PS (Zm m)} (h : i < k) : 0 ≤ (i : Int) ∧ (i : Int) < (cnt 1 (rows true (iG n a k)) : Nat) := by rw [aB, aQ, Abh]; omega
theorem Ax4 (cs : List D) : ∀ d ∈ [D.list true 1 cs], d.one = true := fun d hd => by
 simp only [List.mem_cons, List.not_mem_nil, or_false] at hd
 subst hd; rfl
theorem vL {n k q : Nat} {a : PS (Zm m)} (i : Nat) (e : q = i) (h : i < k) : eW (rows true (iG n a k)) [] q (.list true 1 (ints (L n (pw a i)))) := by
 subst e
 refine ⟨_, rfl, ?_⟩
 rw [lT (by simpa using h), L7 h]
theorem Ak9 {n k q : Nat} {a : PS (Zm m)} (i : Nat) (e : q = i) (h : i < k) : bE (rows true (iG n a k)) ([] ++ [q]) = some (ints (L n (pw a i))) := by
 subst e
 rw [List.nil_append, sE (by simpa using h), L7 h]
theorem Aph (hm : Md m) (o : Bool) (n : Nat) (hn : 1 ≤ n ∧ n ≤ 100) (a : PS (Zm m)) : aI Tryz.prog 302 [aA m, LD o n a] (.list true 1 (rows true (iG n a n))) := by
 have hm1 := hm.1
 have hm2 := hm.2
 refine aU Tryz.tabOk aF Tryz.func302 rfl rfl ?_
 conv => whnf
 repeat' first | ((first | refine z0 ?_ | (refine zP (fun h => ?_) (fun h => ?_) <;> (try simp only [aB, aE] at h)) | refine zS ?_ | refine zV ?_ | (apply zI; refine zP aM ?_) | (apply zI; refine zP aG ?_) | refine zA ?_ | refine Alt.fst ?_ | refine Or.inl ?_) <;> conv => whnf) | fail
 refine aZ Tryz.tabOk aF (α := Nat) (fun i => [(8, aA i), (7, .ref 1 [] 1 0 (i + 1)), (6, .undef), (14, .undef), (15, .undef), (16, .undef), (17, .undef), (18, .undef)]) (fun i => [(1, some ⟨false, 1, rows true (iG n a (i + 1))⟩)]) (fun i => i + 1 ≤ n) (fun i => n - i) (0) ?_ ?_ ?_
 · omega
 · conv => whnf
   first | refine aH.autoR ?_ | refine aC.autoR ?_
   conv => whnf
   repeat' ((first | refine z1 ?_ | refine zV ?_ | refine zP ?_ ?_ | exact trivial) <;> try (conv => whnf))
   all_goals
     rw [← fU (m := m)]
     refine congrArg (fun x => [D.list true 1 x]) (cJ (dX (1 : Zm m) (Zm.val_one (by omega)).symm (fun k hk => ?_)))
     rw [bY]; rfl
 intro i hi
 conv => whnf
 repeat' first | ((first | refine z0 ?_ | (apply zI; refine zP (vL i aY aD) ?_) | (apply zI; refine zP (Ak9 i aY aD) ?_) | (apply zI; refine zP (wH hm _ _ n n n aD (by omega) (by omega) (by omega) (by omega) (by omega) (pw a i) a) ?_) | (refine zP (fun h => ?_) (fun h => ?_) <;> (try simp only [aB, aE] at h)) | refine zV ?_ | (apply zI; refine zP aG ?_) | refine zP (Asd (by omega)) ?_ | refine Or.inl ?_) <;> conv => whnf) | fail
 · refine Exists.intro (i + 1) (zP aD (zP aD ?_))
   first | refine aH.autoR ?_ | refine aC.autoR ?_
   conv => whnf
   repeat' ((first | refine z1 ?_ | refine zV ?_ | refine zP ?_ ?_ | exact trivial) <;> try (conv => whnf))
   exact cC (Avu rfl)
 · rw [show i + 1 = n by simp only [aT] at *; omega]
def turn (f : PS (PS (Zm m))) : PS (PS (Zm m)) := pl fun p q => (f.c q).c p
def oQ (f : PS (PS (Zm m))) (i j : Nat) : PS (PS (Zm m)) := pl fun p q => if q < i ∨ (q = i ∧ p < j) then (f.c q).c p else 0
theorem As6 (f : PS (PS (Zm m))) : oQ f 0 0 = 0 := yZ (fun p q => by
 show (if _ then _ else _) = _
 rw [if_neg (by omega)]; rfl)
theorem Ati (f : PS (PS (Zm m))) (i j : Nat) : cY (oQ f i j) j i ((f.c i).c j) = oQ f i (j + 1) := yZ (fun p q => by
 rw [H7]
 show (if _ then _ else if _ then _ else _) = (if _ then _ else _)
 by_cases h : p = j ∧ q = i
 · rw [if_pos h, if_pos (by omega), h.1, h.2]
 · rw [if_neg h]
   by_cases h2 : q < i ∨ (q = i ∧ p < j)
   · rw [if_pos h2, if_pos (by omega)]
   · rw [if_neg h2, if_neg (by omega)])
theorem Alh (f : PS (PS (Zm m))) {n i j : Nat} (h : n ≤ i + j) : aW n (oQ f i j) (oQ f (i + 1) 0) := fun p q hpq => by
 show (if _ then _ else _) = (if _ then _ else _)
 by_cases h2 : q < i ∨ (q = i ∧ p < j)
 · rw [if_pos h2, if_pos (by omega)]
 · rw [if_neg h2, if_neg (by omega)]
theorem Aos (f : PS (PS (Zm m))) {n i : Nat} (h : n ≤ i) : aW n (oQ f i 0) (turn f) := fun p q hpq => by
 show (if _ then _ else _) = _
 rw [if_pos (by omega)]; rfl
theorem Am7 (o p : Bool) (n : Nat) (hn : 1 ≤ n ∧ n ≤ 100) (f : PS (PS (Zm m))) : aI Tryz.prog 230 [dK o p n f] (dK true true n (turn f)) := by
 refine aU Tryz.tabOk aF Tryz.func230 rfl rfl ?_
 conv => whnf
 repeat' first | ((first | (apply zI; refine zP (mZ (m := m) n aD aD) ?_) | (refine zP (fun h => ?_) (fun h => ?_) <;> (try simp only [aB, aE] at h)) | refine zV ?_ | (apply zI; refine zP aM ?_) | (apply zI; refine zP aG ?_) | refine Or.inl ?_) <;> conv => whnf) | fail
 refine aZ Tryz.tabOk aF (α := Nat) (fun i => [(4, aA i), (6, .undef)]) (fun i => [(0, some ⟨false, 1, rows true (Tb n (oQ f i 0))⟩)]) (fun i => i ≤ n) (fun i => n - i) (0) ?_ ?_ ?_
 · omega
 · conv => whnf
   first | refine aH.autoR ?_ | refine aC.autoR ?_
   conv => whnf
   repeat' ((first | refine z1 ?_ | refine z2 ?_ | refine zV ?_ | refine zP cA ?_ | refine zP cB ?_ | refine zP ?_ ?_ | exact trivial) <;> try (conv => whnf))
   all_goals rw [As6]
 intro i hi
 conv => whnf
 repeat' first | ((first | refine z0 ?_ | (refine zP (fun h => ?_) (fun h => ?_) <;> (try simp only [aB, aE] at h)) | refine zS ?_ | refine zV ?_ | (apply zI; refine zP aM ?_) | (apply zI; refine zP aG ?_) | refine zA ?_ | refine Alt.fst ?_ | refine Or.inl ?_) <;> conv => whnf) | fail
 · refine aZ Tryz.tabOk aF (α := Nat) (fun j => [(5, aA j), (6, .undef)]) (fun j => [(0, some ⟨false, 1, rows true (Tb n (oQ f i j))⟩)]) (fun j => j ≤ n - i) (fun j => n - j) (0) ?_ ?_ ?_
   · omega
   · conv => whnf
     first | refine aH.autoR ?_ | refine aC.autoR ?_
     conv => whnf
     repeat' ((first | refine z1 ?_ | refine z2 ?_ | refine zV ?_ | refine zP cA ?_ | refine zP cB ?_ | refine zP ?_ ?_ | exact trivial) <;> try (conv => whnf))
   intro j hj
   conv => whnf
   repeat' first | ((first | refine z0 ?_ | (refine zP (fun h => ?_) (fun h => ?_) <;> (try simp only [aB, aE] at h)) | refine zS ?_ | refine zV ?_ | (apply zI; refine zP aM ?_) | (apply zI; refine zP aG ?_) | refine zA ?_ | refine Alt.fst ?_ | refine Or.inl ?_) <;> conv => whnf) | fail
   · refine Exists.intro (j + 1) (zP aD (zP aD ?_))
     first | refine aH.autoR ?_ | refine aC.autoR ?_
     conv => whnf
     repeat' ((first | refine z1 ?_ | refine z2 ?_ | refine zV ?_ | refine zP cA ?_ | refine zP cB ?_ | refine zP ?_ ?_ | exact trivial) <;> try (conv => whnf))
     exact cC (fM ((f.c i).c j) rfl aD (aW.of_eq (Ati f i j)))
   · refine Exists.intro (i + 1) (zP aD (zP aD ?_))
     first | refine aH.autoR ?_ | refine aC.autoR ?_
     conv => whnf
     repeat' ((first | refine z1 ?_ | refine z2 ?_ | refine zV ?_ | refine zP cA ?_ | refine zP cB ?_ | refine zP ?_ ?_ | exact trivial) <;> try (conv => whnf))
     exact cC (jW (Alh f aD))
 · exact sI (jW (Aos f aD))
def bL (f : PS (PS (Zm m))) (a b : PS (Zm m)) (G : PS (PS (Zm m))) (i j k : Nat) : Nat → PS (PS (Zm m))
 | 0 => G
 | t + 1 => cY (bL f a b G i j k t) k (j + t) (((bL f a b G i j k t).c k).c (j + t) + (f.c i).c j * (pw a i).c k * (pw b j).c (j + t))
def bK (f : PS (PS (Zm m))) (a b : PS (Zm m)) (n : Nat) (G : PS (PS (Zm m))) (i j : Nat) : Nat → PS (PS (Zm m))
 | 0 => G
 | t + 1 => bL f a b (bK f a b n G i j t) i j (i + t) (n - (i + t) - j)
open Classical in
noncomputable def bJ (f : PS (PS (Zm m))) (a b : PS (Zm m)) (n : Nat) (G : PS (PS (Zm m))) (i : Nat) : Nat → PS (PS (Zm m))
 | 0 => G
 | j + 1 => if (f.c i).c j = 0 then bJ f a b n G i j else bK f a b n (bJ f a b n G i j) i j (n - i)
noncomputable def bI (f : PS (PS (Zm m))) (a b : PS (Zm m)) (n : Nat) : Nat → PS (PS (Zm m))
 | 0 => 0
 | i + 1 => bJ f a b n (bI f a b n i) i (n - i)
theorem E1 {n k q l' i l : Nat} {a : PS (Zm m)} (e : q = i) (e2 : l' = l) (h : i < k) (h2 : l < n) : eW (rows true (iG n a k)) ([] ++ [q]) l' (aA ((pw a i).c l).val) := by
 subst e; subst e2
 refine ⟨ints (L n (pw a q)), ?_, ?_⟩
 · rw [List.nil_append, sE (by simpa using h), L7 h]
 · simp [ints, L, h2]
theorem Aqf (hm : Md m) (o p o1 o2 : Bool) (n : Nat) (hn : 2 ≤ n ∧ n ≤ 100) (f : PS (PS (Zm m))) (a b : PS (Zm m)) : aI Tryz.prog 307 [aA m, dK o p n f, LD o1 n a, LD o2 n b] (dK true true n (bI f a b n n)) := by
 have hm1 := hm.1
 have hm2 := hm.2
 refine aU Tryz.tabOk aF Tryz.func307 rfl rfl ?_
 conv => whnf
 repeat' first | ((first | (apply zI; refine zP (mZ (m := m) n aD aD) ?_) | (apply zI; refine zP (Aph hm _ n aD _) ?_) | refine zV ?_ | refine Or.inl ?_) <;> conv => whnf) | fail
 refine aZ Tryz.tabOk aF (α := Nat) (fun i => [(13, aA i), (16, .undef)]) (fun i => [(2, some ⟨false, 1, rows true (Tb n (bI f a b n i))⟩)]) (fun i => i ≤ n) (fun i => n - i) (0) ?_ ?_ ?_
 · omega
 · conv => whnf
   first | refine aH.autoR ?_ | refine aC.autoR ?_
   conv => whnf
   repeat' ((first | refine z1 ?_ | refine z2 ?_ | refine zV ?_ | refine zP cA ?_ | refine zP cB ?_ | refine zP ?_ ?_ | exact trivial) <;> try (conv => whnf))
 intro i hi
 conv => whnf
 repeat' first | ((first | refine z0 ?_ | (refine zP (fun h => ?_) (fun h => ?_) <;> (try simp only [aB, aE] at h)) | refine zS ?_ | refine zV ?_ | (apply zI; refine zP aM ?_) | (apply zI; refine zP aG ?_) | refine zA ?_ | refine Alt.fst ?_ | refine Or.inl ?_) <;> conv => whnf) | fail
 · have hin : i < n := aD
   refine aZ Tryz.tabOk aF (α := Nat) (fun j => [(14, aA j), (16, .undef)]) (fun j => [(2, some ⟨false, 1, rows true (Tb n (bJ f a b n (bI f a b n i) i j))⟩)]) (fun j => j ≤ n - i) (fun j => n - j) (0) ?_ ?_ ?_
   · omega
   · conv => whnf
     first | refine aH.autoR ?_ | refine aC.autoR ?_
     conv => whnf
     repeat' ((first | refine z1 ?_ | refine z2 ?_ | refine zV ?_ | refine zP cA ?_ | refine zP cB ?_ | refine zP ?_ ?_ | exact trivial) <;> try (conv => whnf))
     all_goals rfl
   intro j hj
   conv => whnf
   repeat' first | ((first | refine z0 ?_ | (refine zP (fun h => ?_) (fun h => ?_) <;> (try simp only [aB, aE] at h)) | refine zS ?_ | refine zV ?_ | (apply zI; refine zP aM ?_) | (apply zI; refine zP aG ?_) | refine zA ?_ | refine Alt.fst ?_ | refine Or.inl ?_) <;> conv => whnf) | fail
   · have hjn : i + j < n := aD
     refine aZ Tryz.tabOk aF (α := Nat) (fun t => [(15, aA ((i : Int) + t)), (16, .undef)]) (fun t => [(2, some ⟨false, 1, rows true (Tb n (bK f a b n (bJ f a b n (bI f a b n i) i j) i j t))⟩)]) (fun t => t ≤ n - i ∧ ((f.c i).c j = 0 → t = 0)) (fun t => n - t) (0) ?_ ?_ ?_
     · exact ⟨by omega, fun _ => rfl⟩
     · conv => whnf
       first | refine aH.autoR ?_ | refine aC.autoR ?_
       conv => whnf
       repeat' ((first | refine z1 ?_ | refine z2 ?_ | refine zV ?_ | refine zP cA ?_ | refine zP cB ?_ | refine zP ?_ ?_ | exact trivial) <;> try (conv => whnf))
       all_goals first | rfl | omega
     intro t ht
     obtain ⟨ht, ht0⟩ := ht
     conv => whnf
     repeat' first | ((first | refine z0 ?_ | (refine zP (fun h => ?_) (fun h => ?_) <;> (try simp only [aB, aE] at h)) | refine zS ?_ | refine zV ?_ | (apply zI; refine zP aM ?_) | (apply zI; refine zP aG ?_) | refine zA ?_ | refine Alt.fst ?_ | refine Or.inl ?_) <;> conv => whnf) | fail
     · have hkn : i + t < n := aD
       have hne : (f.c i).c j ≠ 0 := fun e => absurd (Zm.val_eq_zero.2 e) (by assumption)
       refine aZ Tryz.tabOk aF (α := Nat) (fun s => [(17, aA ((j : Int) + s))]) (fun s => [(2, some ⟨false, 1, rows true (Tb n (bL f a b (bK f a b n (bJ f a b n (bI f a b n i) i j) i j t) i j (i + t) s))⟩)]) (fun s => s ≤ n - (i + t) - j) (fun s => n - s) (0) ?_ ?_ ?_
       · omega
       · conv => whnf
         first | refine aH.autoR ?_ | refine aC.autoR ?_
         conv => whnf
         repeat' ((first | refine z1 ?_ | refine z2 ?_ | refine zV ?_ | refine zP cA ?_ | refine zP cB ?_ | refine zP ?_ ?_ | exact trivial) <;> try (conv => whnf))
         all_goals first | rfl | omega
       intro s hs
       conv => whnf
       have hx1 := Zm.val_range hm.pos (((bL f a b (bK f a b n (bJ f a b n (bI f a b n i) i j) i j t) i j (i + t) s).c (i + t)).c (j + s))
       have hx2 := hm.mul ((f.c i).c j) ((pw a i).c (i + t))
       have hx3 := hm.mul ((f.c i).c j * (pw a i).c (i + t)) ((pw b j).c (j + s))
       repeat' first | ((first | (apply zI; refine zP (vL i aY aD) ?_) | (apply zI; refine zP (vL j aY aD) ?_) | (apply zI; refine zP (E1 (i := i) (l := i + t) aY aY aD aD) ?_) | (apply zI; refine zP (E1 (i := j) (l := j + s) aY aY aD aD) ?_) | (refine zP (fun h => ?_) (fun h => ?_) <;> (try simp only [aB, aE] at h)) | refine zS ?_ | refine zV ?_ | (apply zI; refine zP aM ?_) | (apply zI; refine zP aG ?_) | refine zP (Ah7 aD) ?_) <;> conv => whnf) | fail
       · rw [mR hm]
         repeat' first | ((first | (apply zI; refine zP (vL i aY aD) ?_) | (apply zI; refine zP (vL j aY aD) ?_) | (apply zI; refine zP (E1 (i := i) (l := i + t) aY aY aD aD) ?_) | (apply zI; refine zP (E1 (i := j) (l := j + s) aY aY aD aD) ?_) | (refine zP (fun h => ?_) (fun h => ?_) <;> (try simp only [aB, aE] at h)) | refine zS ?_ | refine zV ?_ | (apply zI; refine zP aM ?_) | (apply zI; refine zP aG ?_) | refine zP (Ah7 aD) ?_) <;> conv => whnf) | fail
         refine Exists.intro (s + 1) (zP aD (zP aD ?_))
         first | refine aH.autoR ?_ | refine aC.autoR ?_
         conv => whnf
         repeat' ((first | refine z1 ?_ | refine z2 ?_ | refine zV ?_ | refine zP cA ?_ | refine zP cB ?_ | refine zP ?_ ?_ | exact trivial) <;> try (conv => whnf))
         all_goals first
           | exact cC (fM _ (uU hm _ _ _) aD (aW.of_eq rfl))
           | omega
       · refine Exists.intro (t + 1) (zP ⟨aD, fun e => absurd e hne⟩ (zP aD ?_))
         first | refine aH.autoR ?_ | refine aC.autoR ?_
         conv => whnf
         repeat' ((first | refine z1 ?_ | refine z2 ?_ | refine zV ?_ | refine zP cA ?_ | refine zP cB ?_ | refine zP ?_ ?_ | exact trivial) <;> try (conv => whnf))
         all_goals first
           | (rw [show s = n - (i + t) - j from aD]; rfl)
           | omega
     · have he : (f.c i).c j = 0 := Zm.val_eq_zero.1 (Classical.not_not.1 (by assumption))
       refine Exists.intro (j + 1) (zP aD (zP aD ?_))
       first | refine aH.autoR ?_ | refine aC.autoR ?_
       conv => whnf
       repeat' ((first | refine z1 ?_ | refine z2 ?_ | refine zV ?_ | refine zP cA ?_ | refine zP cB ?_ | refine zP ?_ ?_ | exact trivial) <;> try (conv => whnf))
       have h0 := ht0 he
       subst h0
       show rows true (Tb n (bJ f a b n (bI f a b n i) i j)) = rows true (Tb n (bJ f a b n (bI f a b n i) i (j + 1)))
       rw [show bJ f a b n (bI f a b n i) i (j + 1) = bJ f a b n (bI f a b n i) i j from if_pos he]
     · have htn : t = n - i := aD
       have he : ¬ (f.c i).c j = 0 := fun e => by have := ht0 e; omega
       refine Exists.intro (j + 1) (zP aD (zP aD ?_))
       first | refine aH.autoR ?_ | refine aC.autoR ?_
       conv => whnf
       repeat' ((first | refine z1 ?_ | refine z2 ?_ | refine zV ?_ | refine zP cA ?_ | refine zP cB ?_ | refine zP ?_ ?_ | exact trivial) <;> try (conv => whnf))
       subst htn
       rw [show bJ f a b n (bI f a b n i) i (j + 1) = bK f a b n (bJ f a b n (bI f a b n i) i j) i j (n - i) from if_neg he]
   · have hjn : j = n - i := aD
     subst hjn
     refine Exists.intro (i + 1) (zP aD (zP aD ?_))
     first | refine aH.autoR ?_ | refine aC.autoR ?_
     conv => whnf
     repeat' ((first | refine z1 ?_ | refine z2 ?_ | refine zV ?_ | refine zP cA ?_ | refine zP cB ?_ | refine zP ?_ ?_ | exact trivial) <;> try (conv => whnf))
     all_goals rfl
 · rw [show i = n from aD]
end Go.Proofs
namespace Go.Proofs
open Go Go.Vm Go.Fg
set_option maxRecDepth 100000
set_option maxHeartbeats 4000000
set_option linter.unusedSimpArgs false
set_option linter.unusedVariables false
def K2 (k : Int) : List (List Int) → List (List Int)
 | [] => []
 | l :: t => marks k l.length :: K2 (k + l.length) t
@[simp] theorem Axb (k : Int) (t : List (List Int)) : (K2 k t).length = t.length := by
 induction t generalizing k with
 | nil => rfl
 | cons l t ih => simp [K2, ih]
def kO (t : List (List Int)) : Prop := ∀ i, i < t.length → (t.getD i []).length ≤ 1048576
theorem tV {m : Int} {n : Nat} (hn : n ≤ 1000) (f : PS (PS (Zm m))) : kO (Tb n f) := fun i hi => by
 have hi' : i < n := by simpa using hi
 rw [gA f hi']; simp; omega
end Go.Proofs
namespace Go.Proofs
open Go Go.Vm Go.Fg Go.Fg.PS
set_option maxRecDepth 100000
set_option maxHeartbeats 4000000
set_option linter.unusedSimpArgs false
set_option linter.unusedVariables false
variable {m : Int}
def Aa5 (t : List (List Int)) (i : Nat) : List D := rows true (t.take i) ++ List.replicate (t.length - i) (.lit (.slice none 0 0))
@[simp] theorem Awz (t : List (List Int)) {i : Nat} : (Aa5 t i).length = min i t.length + (t.length - i) := by simp [Aa5]
def rowOk (m : Int) (t : List (List Int)) (i : Nat) : Bool := decide ((t.getD i []).length = t.length - i) && gR m (t.getD i [])
def eH (m : Int) (t : List (List Int)) : Bool := bB m 2 10000 && bB t.length 2 11 && (List.range t.length).all (rowOk m t)
theorem Afy {m : Int} {t : List (List Int)} (h : bB m 2 10000 = false) : eH m t = false := by simp [eH, h]
theorem V9 {m : Int} {t : List (List Int)} (h : ¬ (2 ≤ t.length ∧ t.length ≤ 11)) : eH m t = false := by
 have : bB t.length 2 11 = false := by simp only [bB, decide_eq_false_iff_not]; omega
 simp [eH, this]
theorem yE {m : Int} {t : List (List Int)} {i : Nat} (hi : i < t.length) (h : rowOk m t i = false) : eH m t = false := by
 have : (List.range t.length).all (rowOk m t) = false := List.all_eq_false.2 ⟨i, by simpa using hi, by simp [h]⟩
 simp [eH, this]
theorem G8 {m : Int} {t : List (List Int)} (h1 : bB m 2 10000 = true) (h2 : 2 ≤ t.length ∧ t.length ≤ 11) (h3 : ∀ j, j < t.length → rowOk m t j = true) : eH m t = true := by
 have e2 : bB t.length 2 11 = true := by simp only [bB, decide_eq_true_eq]; omega
 have e3 : (List.range t.length).all (rowOk m t) = true := List.all_eq_true.2 (fun x hx => h3 x (by simpa using hx))
 simp [eH, h1, e2, e3]
theorem tK {m : Int} {t : List (List Int)} (h : eH m t = true) : Md m ∧ 2 ≤ t.length ∧ t.length ≤ 11 ∧ Af6 m t := by
 simp only [eH, Bool.and_eq_true, bB, decide_eq_true_eq, List.all_eq_true, List.mem_range] at h
 refine ⟨h.1.1, by omega, by omega, fun i hi => ?_⟩
 have := h.2 i hi
 simp only [rowOk, Bool.and_eq_true, decide_eq_true_eq] at this
 exact ⟨this.1, Adf.1 this.2⟩
theorem pY {m : Int} {t : List (List Int)} (h : eH m t = true) : Tb t.length (cM m t) = t := Atl (tK h).2.2.2
theorem Aev (o p : Bool) (m : Int) (t : List (List Int)) (hl : t.length ≤ 1048576) (hr : kO t) : aI Tryz.prog 244 [.agg [aA m, .list o 1 (rows p t)]] (bH (eH m t)) := by
 refine bZ Tryz.tabOk aF Tryz.func244 rfl rfl ?_
 conv => whnf
 repeat' first | ((first | refine z0 ?_ | (apply zI; refine zP (Ad7 _) ?_) | (refine zP (fun h => ?_) (fun h => ?_) <;> (try simp only [aB, aE] at h)) | refine Or.inl ?_) <;> conv => whnf) | fail
 · exact cD (V9 (by simp only [aQ] at *; omega)).symm
 · exact cD (V9 (by simp only [aQ] at *; omega)).symm
 · have hm : bB m 2 10000 = true := by assumption
   refine dR Tryz.tabOk aF (α := Nat) (fun i => [(4, aA i)]) (fun i => []) (fun i => i ≤ t.length ∧ ∀ j, j < i → rowOk m t j = true) (fun i => t.length - i) (0) ?_ ?_ ?_
   · exact ⟨by omega, by omega⟩
   · conv => whnf
     first | refine aH.auto ?_ | refine aC.auto ?_
     conv => whnf
     repeat' ((first | refine z1 ?_ | refine z2 ?_ | refine zV ?_ | refine zP cA ?_ | refine zP cB ?_ | refine zP ?_ ?_ | exact trivial) <;> try (conv => whnf))
   intro i ⟨hi, hj⟩
   conv => whnf
   have hri := hr i
   repeat' first | ((first | refine z0 ?_ | (apply zI; refine zP (Ac3 _ m _ (wB hm) (Nat.le_trans (hr i aD) (by omega))) ?_) | (refine zP (fun h => ?_) (fun h => ?_) <;> (try simp only [aB, aE] at h)) | refine zS ?_ | refine zV ?_ | (apply zI; refine zP aG ?_) | refine Alt.fst ?_ | refine Or.inl ?_) <;> conv => whnf) | fail
   · have hi' : i < t.length := by simp only [aQ] at *; omega
     refine cD (yE hi' ?_).symm
     simp only [aQ] at *
     have : ¬ (t.getD i []).length = t.length - i := by omega
     unfold rowOk; rw [decide_eq_false this]; rfl
   · have hi' : i < t.length := by simp only [aQ] at *; omega
     refine Exists.intro (i + 1) (zP ⟨by omega, oR hj ?_⟩ (zP (by omega) ?_))
     · simp only [aQ] at *
       have h8 : (t.getD i []).length = t.length - i := by omega
       have h9 : gR m (t.getD i []) = true := by assumption
       unfold rowOk; rw [decide_eq_true h8, h9]; rfl
     first | refine aH.auto ?_ | refine aC.auto ?_
     conv => whnf
     repeat' ((first | refine z1 ?_ | refine z2 ?_ | refine zV ?_ | refine zP cA ?_ | refine zP cB ?_ | refine zP ?_ ?_ | exact trivial) <;> try (conv => whnf))
   · have hi' : i < t.length := by simp only [aQ] at *; omega
     refine cD (yE hi' ?_).symm
     have h9 : gR m (t.getD i []) = false := by assumption
     unfold rowOk; rw [h9, Bool.and_false]
   · simp only [aQ] at *
     exact cD (G8 hm (by omega) (fun j h => hj j (by omega))).symm
 · exact cD (Afy (by assumption)).symm
theorem Al6 (a m : Int) (d : D) (h1 : dQ .i64 (m - 1)) : aI Tryz.prog 218 [aA a, .cptr [aA m, d] 0] (bH (bB a 0 (m - 1))) := by
 refine bZ Tryz.tabOk aF Tryz.func218 rfl rfl ?_
 conv => whnf
 repeat' first | ((first | refine z0 ?_ | (apply zI; refine zP (yW _ _ h1) ?_) | (refine zP (fun h => ?_) (fun h => ?_) <;> (try simp only [aB, aE] at h)) | (apply zI; refine zP aG ?_) | refine Or.inl ?_) <;> conv => whnf) | fail
 all_goals (refine cD ?_; first | rfl | (simp_all []; done) | (simp_all []; omega) | (simp_all []; intros; omega))
theorem S9 (o p : Bool) (m : Int) (t : List (List Int)) (hl : t.length ≤ 1048576) (hr : kO t) : aI Tryz.prog 100 [.agg [aA m, .list o 1 (rows p t)]] (bH (eH m t)) := by
 have hdeg : aI Tryz.prog 124 [.agg [aA m, .list o 1 (rows p t)]] (aA (t.length - 1)) := by
   refine bZ Tryz.tabOk aF Tryz.func124 rfl rfl ?_
   conv => whnf
   repeat' first | ((first | refine z0 ?_ | (refine zP (fun h => ?_) (fun h => ?_) <;> (try simp only [aB, aE] at h)) | refine zS ?_ | refine zV ?_ | (apply zI; refine zP aM ?_) | (apply zI; refine zP aG ?_) | refine zA ?_ | refine Alt.fst ?_ | refine Or.inl ?_) <;> conv => whnf) | fail
   simp [aB]
 refine bZ Tryz.tabOk aF Tryz.func100 rfl rfl ?_
 conv => whnf
 repeat' first | ((first | refine z0 ?_ | (apply zI; refine zP (S8 _) ?_) | (apply zI; refine zP (mT _ _ _) ?_) | (apply zI; refine zP (hdeg) ?_) | (refine zP (fun h => ?_) (fun h => ?_) <;> (try simp only [aB, aE] at h)) | refine Or.inl ?_) <;> conv => whnf) | fail
 · have hm : bB m 2 10000 = true := by assumption
   have hb : bB ((t.length : Int) - 1) 1 10 = true := by assumption
   simp only [bB, decide_eq_true_eq] at hb
   refine dR Tryz.tabOk aF (α := Nat) (fun i => [(18, aA i)]) (fun i => []) (fun i => i ≤ t.length ∧ ∀ j, j < i → rowOk m t j = true) (fun i => t.length - i) (0) ?_ ?_ ?_
   · exact ⟨by omega, by omega⟩
   · conv => whnf
     first | refine aH.auto ?_ | refine aC.auto ?_
     conv => whnf
     repeat' ((first | refine z1 ?_ | refine z2 ?_ | refine zV ?_ | refine zP cA ?_ | refine zP cB ?_ | refine zP ?_ ?_ | exact trivial) <;> try (conv => whnf))
   intro i ⟨hi, hj⟩
   conv => whnf
   have hri := hr i
   repeat' first | ((first | refine z0 ?_ | (apply zI; refine zP (O5 218 [aA m, .list o 1 (rows p t)] (fun a => bB a 0 (m - 1)) (fun a => Al6 a m _ (wB hm)) _ _ (hr i aD)) ?_) | (refine zP (fun h => ?_) (fun h => ?_) <;> (try simp only [aB, aE] at h)) | refine zV ?_ | (apply zI; refine zP aG ?_) | refine Or.inl ?_) <;> conv => whnf) | fail
   · have hi' : i < t.length := by simp only [aQ] at *; omega
     refine cD (yE hi' ?_).symm
     simp only [aQ] at *
     have : ¬ (t.getD i []).length = t.length - i := by omega
     unfold rowOk; rw [decide_eq_false this]; rfl
   · have hi' : i < t.length := by simp only [aQ] at *; omega
     refine Exists.intro (i + 1) (zP ⟨by omega, oR hj ?_⟩ (zP (by omega) ?_))
     · simp only [aQ] at *
       have h8 : (t.getD i []).length = t.length - i := by omega
       have h9 : gR m (t.getD i []) = true := by assumption
       unfold rowOk; rw [decide_eq_true h8, h9]; rfl
     first | refine aH.auto ?_ | refine aC.auto ?_
     conv => whnf
     repeat' ((first | refine z1 ?_ | refine z2 ?_ | refine zV ?_ | refine zP cA ?_ | refine zP cB ?_ | refine zP ?_ ?_ | exact trivial) <;> try (conv => whnf))
   · have hi' : i < t.length := by simp only [aQ] at *; omega
     refine cD (yE hi' ?_).symm
     have h9 : gR m (t.getD i []) = false := by assumption
     unfold rowOk; rw [h9, Bool.and_false]
   · simp only [aQ] at *
     exact cD (G8 hm (by omega) (fun j h => hj j (by omega))).symm
 · have hb : bB ((t.length : Int) - 1) 1 10 = false := by assumption
   simp only [bB, decide_eq_false_iff_not] at hb
   exact cD (V9 (by omega)).symm
 · exact cD (Afy (by assumption)).symm
def dW (n : Nat) (f : PS (PS (Zm m))) : Nat → List D
 | 0 => []
 | k + 1 => dW n f k ++ [aA m, .list true 1 (rows true (Tb n (pw f k)))]
@[simp] theorem L0 (n : Nat) (f : PS (PS (Zm m))) (k : Nat) : (dW n f k).length = 2 * k := by
 induction k with
 | zero => rfl
 | succ k ih => simp only [dW, List.length_append, ih, List.length_cons, List.length_nil]; omega
theorem G2 (n : Nat) (f : PS (PS (Zm m))) {k i : Nat} (h : i < k) : (dW n f k)[2 * i]? = some (aA m) ∧ (dW n f k)[2 * i + 1]? = some (.list true 1 (rows true (Tb n (pw f i)))) := by
 induction k with
 | zero => omega
 | succ k ih =>
   rcases Nat.lt_or_ge i k with h' | h'
   · simp only [dW]
     rw [List.getElem?_append_left (by simp; omega), List.getElem?_append_left (by simp; omega)]
     exact ih h'
   · have : i = k := by omega
     subst this
     simp only [dW]
     rw [List.getElem?_append_right (by simp), List.getElem?_append_right (by simp), L0, show 2 * i - 2 * i = 0 by omega, show 2 * i + 1 - 2 * i = 1 by omega]
     exact ⟨rfl, rfl⟩
theorem A6 (n : Nat) (f : PS (PS (Zm m))) (k : Nat) : cnt 2 (dW n f k) = k := by
 simp [cnt]
theorem vPl {n k q : Nat} {f : PS (PS (Zm m))} (i : Nat) (e : q = 2 * i + 1) (h : i < k) : (dW n f k)[q]? = some (.list true 1 (rows true (Tb n (pw f i)))) := by
 subst e; exact (G2 n f h).2
theorem Akg (n : Nat) (f : PS (PS (Zm m))) (k : Nat) : (0 + cnt 2 (dW n f k)) * 2 ≤ (dW n f k).length := by rw [A6, L0]; omega
theorem Aly (n : Nat) (f : PS (PS (Zm m))) (k : Nat) : sub (dW n f k) 2 0 (cnt 2 (dW n f k)) = dW n f k := by
 rw [A6]
 simp only [sub, Nat.zero_mul, List.drop_zero]
 rw [List.take_of_length_le (by simp; omega)]
def lD (g : Nat → Int) : Nat → Int
 | 0 => 0
 | k + 1 => lD g k + g k
theorem P3 {g : Nat → Int} {B : Int} (h : ∀ i, 0 ≤ g i ∧ g i ≤ B) (k : Nat) : 0 ≤ lD g k ∧ lD g k ≤ k * B := by
 induction k with
 | zero => simp [lD]
 | succ k ih =>
   have := h k
   simp only [lD, Int.natCast_add, Int.natCast_one, Int.add_mul, Int.one_mul]
   omega
theorem Afq (g : Nat → Zm m) (k : Nat) : Zm.mk m (lD (fun i => (g i).val) k) = sm k g := by
 induction k with
 | zero => rfl
 | succ k ih => simp only [lD, Zm.mk_add, ih, Zm.mk_val, bF]
def kA (f : PS (PS (Zm m))) (n a b c : Nat) : Zm m := sm (n - c) fun i => (f.c i).c c * ((pw f i).c a).c b
def kE (f : PS (PS (Zm m))) (n a b c : Nat) : Zm m := sm (n - a) fun j => (f.c a).c j * ((pw f j).c b).c c
theorem Apg {n k q : Nat} {f : PS (PS (Zm m))} (i : Nat) (e : q = 2 * i) (h : i < k) : Q1 (dW n f k) [] q 2 [aA m, .list true 1 (rows true (Tb n (pw f i)))] := by
 subst e
 refine ⟨_, rfl, ?_, rfl⟩
 have h1 := G2 n f h
 have l1 : 2 * i < (dW n f k).length := by simp; omega
 have l2 : 2 * i + 1 < (dW n f k).length := by simp; omega
 rw [List.getElem?_eq_getElem l1, List.getElem?_eq_getElem l2] at h1
 rw [List.drop_eq_getElem_cons l1, List.drop_eq_getElem_cons l2, Option.some.inj h1.1, Option.some.inj h1.2]
 rfl
theorem Amu {n k q : Nat} {f : PS (PS (Zm m))} (i : Nat) (e : q = 2 * i + 1) (h : i < k) : bE (dW n f k) ([] ++ [q]) = some (rows true (Tb n (pw f i))) := by
 subst e
 show (match (dW n f k)[2 * i + 1]? with | some (.list true _ cs') => bE cs' [] | _ => none) = _
 rw [(G2 n f h).2]
 rfl
theorem Avs {n k q : Nat} {f : PS (PS (Zm m))} (h : q = 2 * k) : q = (dW n f k).length := by rw [L0]; exact h
theorem Aia (x : Value) (cs : List D) (h : D.one (.lit x) = true := by rfl) : ∀ d ∈ [D.lit x, D.list true 1 cs], d.one = true := fun d hd => by
 simp only [List.mem_cons, List.not_mem_nil, or_false] at hd
 rcases hd with rfl | rfl
 · exact h
 · rfl
theorem Ap3 (n : Nat) (f : PS (PS (Zm m))) (k : Nat) : ∀ x ∈ dW n f k, PlainD x := by
 induction k with
 | zero => intro x hx; simp [dW] at hx
 | succ k ih =>
   intro x hx
   simp only [dW, List.mem_append, List.mem_cons, List.not_mem_nil, or_false] at hx
   rcases hx with hx | rfl | rfl
   · exact ih x hx
   · exact .lit _
   · exact .list _ _ (D4 _)
theorem Afp {n : Nat} (h : n ≤ 1000000) : gK n 32 := ⟨by omega, by omega⟩
theorem Alm (hm : Md m) (o p : Bool) (n : Nat) (hn : 1 ≤ n ∧ n ≤ 100) (f : PS (PS (Zm m))) : aI Tryz.prog 297 [dO m o p n f] (.list true 2 (dW n f n)) := by
 have hm1 := hm.1
 have hm2 := hm.2
 refine aU Tryz.tabOk aF Tryz.func297 rfl rfl ?_
 conv => whnf
 repeat' first | ((first | (apply zI; refine zP (nW _ _ _ aD _) ?_) | (apply zI; refine zP (Ane hm _ _ n aD _ _) ?_) | refine zV ?_ | refine Or.inl ?_) <;> conv => whnf) | fail
 refine aZ Tryz.tabOk aF (α := Nat) (fun i => [(9, aA i), (3, .ref 3 [] 2 0 (i + 1)), (5, .undef), (6, .undef)]) (fun i => [(3, some ⟨false, 2, dW n f (i + 1)⟩)]) (fun i => i + 1 ≤ n) (fun i => n - i) (0) ?_ ?_ ?_
 · omega
 · conv => whnf
   first | refine aH.autoR ?_ | refine aC.autoR ?_
   conv => whnf
   repeat' ((first | refine z1 ?_ | refine zP ?_ ?_ | exact trivial) <;> try (conv => whnf))
 intro i hi
 conv => whnf
 repeat' first | ((first | refine z0 ?_ | (apply zI; refine zP (Apg i (by simp [place]; try omega) aD) ?_) | (apply zI; refine zP (Amu i (by simp [place]; try omega) aD) ?_) | (apply zI; refine zP (Ajf hm _ _ _ _ n aD (pw f i) f) ?_) | (refine zP (fun h => ?_) (fun h => ?_) <;> (try simp only [aB, aE] at h)) | refine zS ?_ | refine zV ?_ | (apply zI; refine zP aM ?_) | (apply zI; refine zP aG ?_) | refine zP (Afp aD) ?_ | refine zP (Avs (by omega)) ?_ | refine zP (Aia _ _) ?_ | refine zP (Ap3 _ _ _) ?_ | refine Alt.fst ?_ | refine Or.inl ?_) <;> conv => whnf) | fail
 · refine Exists.intro (i + 1) (zP aD (zP aD ?_))
   first | refine aH.autoR ?_ | refine aC.autoR ?_
   conv => whnf
   repeat' ((first | refine z1 ?_ | refine zP ?_ ?_ | exact trivial) <;> try (conv => whnf))
 · rw [show i + 1 = n by omega]
theorem Asq (hm : Md m) (o p o2 : Bool) (n : Nat) (hn : 1 ≤ n ∧ n ≤ 100) (f : PS (PS (Zm m))) (a b c : Nat) (h : a + b + c < n) : aI Tryz.prog 298 [aA a, aA b, aA c, .cptr [aA (n - 1)] 0, .cptr [aA m, .list o 1 (rows p (Tb n f))] 0, .cptr [.list o2 2 (dW n f n)] 0] (aA (kA f n a b c - kE f n a b c).val) := by
 have hm1 := hm.1
 have hm2 := hm.2
 have hB1 : ∀ i, 0 ≤ ((f.c i).c c * ((pw f i).c a).c b).val ∧ ((f.c i).c c * ((pw f i).c a).c b).val ≤ 10000 := fun i => by
   have := Zm.val_range hm.pos ((f.c i).c c * ((pw f i).c a).c b); omega
 have hB2 : ∀ j, 0 ≤ ((f.c a).c j * ((pw f j).c b).c c).val ∧ ((f.c a).c j * ((pw f j).c b).c c).val ≤ 10000 := fun j => by
   have := Zm.val_range hm.pos ((f.c a).c j * ((pw f j).c b).c c); omega
 refine aU Tryz.tabOk aF Tryz.func298 rfl rfl ?_
 conv => whnf
 repeat' first | ((first | refine z0 ?_ | (refine zP (fun h => ?_) (fun h => ?_) <;> (try simp only [aB, aE] at h)) | refine zS ?_ | refine zV ?_ | (apply zI; refine zP aM ?_) | (apply zI; refine zP aG ?_) | refine zA ?_ | refine Alt.fst ?_ | refine Or.inl ?_) <;> conv => whnf) | fail
 refine aZ Tryz.tabOk aF (α := Nat) (fun i => [(12, aA i), (10, aA (lD (fun i => ((f.c i).c c * ((pw f i).c a).c b).val) i))]) (fun i => []) (fun i => i + c ≤ n) (fun i => n - i) (0) ?_ ?_ ?_
 · omega
 · conv => whnf
   first | refine aH.autoR ?_ | refine aC.autoR ?_
   conv => whnf
   repeat' ((first | refine z1 ?_ | refine zP ?_ ?_ | exact trivial) <;> try (conv => whnf))
 intro i hi
 conv => whnf
 have hs := P3 hB1 i
 have hs1 := hm.mul ((f.c i).c c) (((pw f i).c a).c b)
 have hs2 := mR hm ((f.c i).c c) (((pw f i).c a).c b)
 have hs3 := hB1 i
 repeat' first | ((first | (apply zI; refine zP (vPl i (by simp [place]; omega) aD) ?_) | (refine zP (fun h => ?_) (fun h => ?_) <;> (try simp only [aB, aE] at h)) | refine zS ?_ | refine zV ?_ | (apply zI; refine zP aG ?_) | (refine zP (⟨aD, by rw [A6]; omega⟩) ?_)) <;> conv => whnf) | fail
 · refine Exists.intro (i + 1) (zP aD (zP aD ?_))
   first | refine aH.autoR ?_ | refine aC.autoR ?_
   conv => whnf
   repeat' ((first | refine z1 ?_ | refine zP ?_ ?_ | exact trivial) <;> try (conv => whnf))
   simp only [lD, hs2]
 · have hic : i + c = n := aD
   refine aZ Tryz.tabOk aF (α := Nat) (fun j => [(13, aA j), (11, aA (lD (fun j => ((f.c a).c j * ((pw f j).c b).c c).val) j))]) (fun j => []) (fun j => j + a ≤ n) (fun j => n - j) (0) ?_ ?_ ?_
   · omega
   · conv => whnf
     first | refine aH.autoR ?_ | refine aC.autoR ?_
     conv => whnf
     repeat' ((first | refine z1 ?_ | refine zP ?_ ?_ | exact trivial) <;> try (conv => whnf))
   intro j hj
   conv => whnf
   have ht := P3 hB2 j
   have ht1 := hm.mul ((f.c a).c j) (((pw f j).c b).c c)
   have ht2 := mR hm ((f.c a).c j) (((pw f j).c b).c c)
   have ht3 := hB2 j
   have hs' := P3 hB1 i
   repeat' first | ((first | refine z0 ?_ | (apply zI; refine zP (vPl j (by simp [place]; omega) aD) ?_) | (apply zI; refine zP (jZ _ _ hm.pos (by omega)) ?_) | (refine zP (fun h => ?_) (fun h => ?_) <;> (try simp only [aB, aE] at h)) | refine zS ?_ | refine zV ?_ | (apply zI; refine zP aG ?_) | (refine zP (⟨aD, by rw [A6]; omega⟩) ?_) | refine Or.inl ?_) <;> conv => whnf) | fail
   · refine Exists.intro (j + 1) (zP aD (zP aD ?_))
     first | refine aH.autoR ?_ | refine aC.autoR ?_
     conv => whnf
     repeat' ((first | refine z1 ?_ | refine zP ?_ ?_ | exact trivial) <;> try (conv => whnf))
     simp only [lD, ht2]
   · have hja : j + a = n := aD
     refine congrArg aA (Zm.emod_val ?_)
     rw [Zm.mk_sub, Afq, Afq, show i = n - c by omega, show j = n - a by omega]
     rfl
theorem Awy (o : Bool) (sz : Nat) (cs : List D) : ∀ d ∈ [D.list o sz cs], d.one = true := fun d hd => by
 rw [List.mem_singleton.1 hd]; rfl
theorem Aes (f : PS (PS (Zm m))) {n i : Nat} {l : List Int} (h : i < n) (e : l = L (n - i) (f.c i)) : (Tb n f).take i ++ [l] = (Tb n f).take (i + 1) := by
 subst e
 rw [List.take_add_one, ← gA f h, List.getD_eq_getElem?_getD, List.getElem?_eq_getElem (by simpa using h)]; rfl
theorem oS (hm : Md m) (o p o' p' : Bool) (n : Nat) (hn : 1 ≤ n ∧ n ≤ 100) (f g : PS (PS (Zm m))) : aI Tryz.prog 227 [aA m, dK o p n f, dK o' p' n g] (dK true true n (f + g)) := by
 have hT : ∀ i, i < n → (Tb n (f + g)).take i ++ [L (n - i) (f.c i + g.c i)] = (Tb n (f + g)).take (i + 1) := fun i hi => Aes _ hi rfl
 refine aU Tryz.tabOk aF Tryz.func227 rfl rfl ?_
 conv => whnf
 repeat' first | ((first | refine z0 ?_ | (refine zP (fun h => ?_) (fun h => ?_) <;> (try simp only [aB, aE] at h)) | refine zS ?_ | refine zV ?_ | (apply zI; refine zP aM ?_) | (apply zI; refine zP aG ?_) | refine zA ?_ | refine Alt.fst ?_ | refine Or.inl ?_) <;> conv => whnf) | fail
 refine aZ Tryz.tabOk aF (α := Nat) (fun i => [(8, aA i), (7, .ref 0 [] 1 0 i), (9, .undef), (16, .undef)]) (fun i => [(0, some ⟨false, 1, rows true ((Tb n (f + g)).take i)⟩)]) (fun i => i ≤ n) (fun i => n - i) (0) ?_ ?_ ?_
 · omega
 · conv => whnf
   first | refine aH.autoR ?_ | refine aC.autoR ?_
   conv => whnf
   repeat' ((first | refine z1 ?_ | refine zP ?_ ?_ | exact trivial) <;> try (conv => whnf))
 intro i hi
 conv => whnf
 repeat' first | ((first | refine z0 ?_ | (apply zI; refine zP (U5 hm _ _ (n - i) (by omega) (f.c i) (g.c i)) ?_) | (refine zP (fun h => ?_) (fun h => ?_) <;> (try simp only [aB, aE] at h)) | refine zS ?_ | refine zV ?_ | (apply zI; refine zP aG ?_) | (refine zP ((by simp; omega)) ?_) | refine Alt.fst ?_ | refine Or.inl ?_) <;> conv => whnf) | fail
 · refine Exists.intro (i + 1) (zP aD (zP aD ?_))
   first | refine aH.autoR ?_ | refine aC.autoR ?_
   conv => whnf
   repeat' ((first | refine z1 ?_ | refine zP ?_ ?_ | exact trivial) <;> try (conv => whnf))
   exact cC (hT i aD)
 · have e : i = n := aD
   subst e
   exact congrArg (D.list true 1) (cC (List.take_of_length_le (by simp)))
theorem mS (hm : Md m) (o p : Bool) (n : Nat) (hn : 1 ≤ n ∧ n ≤ 100) (z : Zm m) {Z : Int} (hZ : Z = z.val) (f : PS (PS (Zm m))) : aI Tryz.prog 228 [aA m, aA Z, dK o p n f] (dK true true n (PS.C (PS.C z) * f)) := by
 subst hZ
 have hT : ∀ i, i < n → (Tb n (PS.C (PS.C z) * f)).take i ++ [L (n - i) (PS.C z * f.c i)] = (Tb n (PS.C (PS.C z) * f)).take (i + 1) := fun i hi => Aes _ hi (by rw [C_mul])
 refine aU Tryz.tabOk aF Tryz.func228 rfl rfl ?_
 conv => whnf
 repeat' first | ((first | refine z0 ?_ | (refine zP (fun h => ?_) (fun h => ?_) <;> (try simp only [aB, aE] at h)) | refine zS ?_ | refine zV ?_ | (apply zI; refine zP aM ?_) | (apply zI; refine zP aG ?_) | refine zA ?_ | refine Alt.fst ?_ | refine Or.inl ?_) <;> conv => whnf) | fail
 refine aZ Tryz.tabOk aF (α := Nat) (fun i => [(8, aA i), (7, .ref 0 [] 1 0 i), (9, .undef), (16, .undef)]) (fun i => [(0, some ⟨false, 1, rows true ((Tb n (PS.C (PS.C z) * f)).take i)⟩)]) (fun i => i ≤ n) (fun i => n - i) (0) ?_ ?_ ?_
 · omega
 · conv => whnf
   first | refine aH.autoR ?_ | refine aC.autoR ?_
   conv => whnf
   repeat' ((first | refine z1 ?_ | refine zP ?_ ?_ | exact trivial) <;> try (conv => whnf))
 intro i hi
 conv => whnf
 repeat' first | ((first | refine z0 ?_ | (apply zI; refine zP (N2 hm _ (n - i) (by omega) z (f.c i)) ?_) | (refine zP (fun h => ?_) (fun h => ?_) <;> (try simp only [aB, aE] at h)) | refine zV ?_ | (apply zI; refine zP aG ?_) | (refine zP ((by simp; omega)) ?_) | refine Or.inl ?_) <;> conv => whnf) | fail
 · refine Exists.intro (i + 1) (zP aD (zP aD ?_))
   first | refine aH.autoR ?_ | refine aC.autoR ?_
   conv => whnf
   repeat' ((first | refine z1 ?_ | refine zP ?_ ?_ | exact trivial) <;> try (conv => whnf))
   exact cC (hT i aD)
 · have e : i = n := aD
   subst e
   exact congrArg (D.list true 1) (cC (List.take_of_length_le (by simp)))
end Go.Proofs
