import Derived.Test.YtndhpcigpghejaaGreatK33
import Derived.Test.YtndhpcigpghejaaGreatK22
import Derived.Test.YtndhpcigpghejaaGreatAlg21
import Derived.Test.YtndhpcigpghejaaGreatK132
import Derived.Test.YtndhpcigpghejaaGreatK3
import Derived.Test.YtndhpcigpghejaaGreatKP
import Derived.Test.YtndhpcigpghejaaGreatK31
import Derived.Test.YtndhpcigpghejaaGreatK135A
import Derived.Test.YtndhpcigpghejaaGreatK154
import Derived.Test.YtndhpcigpghejaaGreatK133
import Derived.Test.YtndhpcigpghejaaGreatK125
import Derived.Test.YtndhpcigpghejaaGreatAlg23
namespace Go.Proofs
open Go Go.Vm Go.Fg Go.Fg.PS
set_option maxRecDepth 100000
set_option maxHeartbeats 4000000
set_option linter.unusedSimpArgs false
set_option linter.unusedVariables false
variable {m : Int}
theorem putS_ev (f : PS (PS (Zm m))) (a b : PS (Zm m)) (n : Nat) : putS f a b n = evT n f a b := by
 unfold putS putP evT
 exact Go.Fg.add_zero _
end Go.Proofs
namespace Go.Proofs
open Go Go.Vm Go.Fg Go.Fg.PS
set_option maxRecDepth 100000
set_option maxHeartbeats 4000000
set_option linter.unusedSimpArgs false
set_option linter.unusedVariables false
end Go.Proofs
namespace Go.Proofs
open Go Go.Vm Go.Fg Go.Fg.PS
set_option maxRecDepth 100000
set_option maxHeartbeats 4000000
set_option linter.unusedSimpArgs false
set_option linter.unusedVariables false
variable {m : Int}
set_option linter.unusedSectionVars false
theorem lwN_of {f : PS (PS (Zm m))} {n : Nat} (hn : 2 ≤ n) (L : LawP f n) : LwN f n :=
 ⟨hn, by rw [L.1 0 (by omega)]; exact if_neg (by omega), by rw [L.1 1 (by omega)]; exact if_pos rfl, fun i hi hne => by rw [L.1 i hi]; exact if_neg hne, L.2.1, fun p q k h => L.2.2 p q k h⟩
section
variable {f : PS (PS (Zm m))} {n : Nat} (hL : LwN f n)
include hL
theorem mul_nm {k : Nat} {out a r : PS (Zm m)} (h : Mul f n k out a r) (ho : out.c 0 = 0) (ha : a.c 0 = 0) : cv n r = hL.G.ad (cv n out) (hL.G.nm k (cv n a)) ∧ r.c 0 = 0 := by
 induction h with
 | zero out a => exact ⟨(hL.G.adz _).symm, ho⟩
 | odd k out a r hk h ih =>
   obtain ⟨h1, h2⟩ := ih (putS_0 hL.z0 ho ha) (putS_0 hL.z0 ha ha)
   refine ⟨?_, h2⟩
   rw [h1, putS_ev, putS_ev, ← hL.ad_cv ho ha, ← hL.ad_cv ha ha, hL.G.nm_ad, ← hL.G.nm_add, hL.G.assoc, hL.G.comm (cv n a)]
   have e : hL.G.nm k (cv n a) = hL.G.ad (hL.G.nm (k / 2 + k / 2) (cv n a)) (cv n a) := by
     conv => lhs; rw [show k = (k / 2 + k / 2) + 1 by omega]
     rfl
   rw [e]
 | even k out a r hk hk2 h ih =>
   obtain ⟨h1, h2⟩ := ih ho (putS_0 hL.z0 ha ha)
   refine ⟨?_, h2⟩
   rw [h1, putS_ev, ← hL.ad_cv ha ha, hL.G.nm_ad, ← hL.G.nm_add, show k / 2 + k / 2 = k by omega]
end
end Go.Proofs
namespace Go.Proofs
open Go Go.Vm Go.Fg Go.Fg.PS
set_option linter.unusedVariables false
theorem wei : Wei := fun _ hm n hn _ hd o a => ⟨wF n a, c_l08Weierstrass hm o n hn hd a⟩
end Go.Proofs
namespace Go.Proofs
open Go Go.Vm Go.Fg Go.Fg.PS
set_option maxRecDepth 100000
set_option maxHeartbeats 4000000
set_option linter.unusedSimpArgs false
set_option linter.unusedVariables false
variable {m : Int}
theorem c_l01DrawModulus (o : Bool) (l : List Nat) (hb : ∀ b ∈ l, b < 256) (hl : l.length ≤ 4611686018427387904) (a : Nat) (ha : a ≤ l.length) (hs : Int) :
   CallsTo Tryz.prog 472 2 [.ptr 1 [] 0] [none, some (srcR o l a hs)]
     (fun d rt => ∃ (x : Int) (a' : Nat) (h' : Int), (2 ≤ x ∧ x ≤ 10000) ∧ a' ≤ l.length ∧ d = dint x ∧ rt = [none, some (srcR o l a' h')]) := by
 refine callsTo_of Tryz.tabOk mixOrd 2 _ Tryz.func472 rfl rfl ?_
 conv => whnf
 repeat' first | (refine borA [1] (c_l01Next o l hb hl a ha hs 100) (fun d rt' hd => ?_)) | fail
 obtain ⟨x, a1, h1, hx, ha1, rfl, rfl⟩ := hd
 refine ⟨rfl, by simp, ?_⟩
 conv => whnf
 have hx2 := hx.2 (by omega)
 repeat' first | (refine borA [1] (c_l01Next o l hb hl a1 ha1 h1 9999) (fun d rt' hd => ?_)) | ((first | refine zV ?_) <;> conv => whnf) | fail
 obtain ⟨z, a3, h3, hz, ha3, rfl, rfl⟩ := hd
 refine ⟨rfl, by simp, ?_⟩
 conv => whnf
 have hz2 := hz.2 (by omega)
 repeat' first | (refine borA [1, 2] (c_l01Pick o l hb hl a3 ha3 h3 [2, 3, 4, 5, 6, 7, 8, 9, 10, 12, 16, 25, 27, 30, 49, 101, 210, 2 + x, 2 + z, 10000] (by simp)) (fun d rt' hd => ?_)) | ((first | refine zV ?_) <;> conv => whnf) | fail
 obtain ⟨y, a2, h2, hy, ha2, rfl, rfl⟩ := hd
 refine ⟨rfl, by simp, ?_⟩
 conv => whnf
 repeat' first | ((first | refine z0 ?_ | (refine And.intro (fun h => ?_) (fun h => ?_) <;> (try simp only [cnt1, ints_length] at h)) | refine zS ?_ | refine zV ?_ | (apply zI; refine zP vObt ?_) | (apply zI; refine zP vObx ?_) | refine zA ?_ | refine Alt.fst ?_ | refine Or.inl ?_) <;> conv => whnf) | fail
 have hy2 : 2 ≤ y ∧ y ≤ 10000 := by
   simp only [List.mem_cons, List.not_mem_nil, or_false] at hy
   omega
 refine ⟨dint y, [none, some (srcR o l a2 h2)], ⟨y, a2, h2, hy2, ha2, rfl, rfl⟩, Weak.of (kp := 2) [none, some 1] ?_⟩
 conv => whnf
 repeat' ((first | refine z1 ?_ | refine zV ?_ | refine And.intro ?_ ?_ | exact trivial) <;> try (conv => whnf))
theorem c_l01Count (o : Bool) (l : List Nat) (hb : ∀ b ∈ l, b < 256) (hl : l.length ≤ 4611686018427387904) (a : Nat) (ha : a ≤ l.length) (hs : Int) (n : Int) (hn : 0 ≤ n ∧ n ≤ 1000) :
   CallsTo Tryz.prog 278 2 [.ptr 1 [] 0, dint n] [none, some (srcR o l a hs)]
     (fun d rt => ∃ (x : Int) (a' : Nat) (h' : Int), (-4611686018427387904 ≤ x ∧ x ≤ 1099511627776) ∧ a' ≤ l.length ∧ d = dint x ∧ rt = [none, some (srcR o l a' h')]) := by
 refine callsTo_of Tryz.tabOk mixOrd 2 _ Tryz.func278 rfl rfl ?_
 conv => whnf
 repeat' first | (refine borA [1] (c_l01Next o l hb hl a ha hs 14) (fun d rt' hd => ?_)) | fail
 obtain ⟨x, a1, h1, hx, ha1, rfl, rfl⟩ := hd
 refine ⟨rfl, by simp, ?_⟩
 conv => whnf
 have hx2 := hx.2 (by omega)
 repeat' first | (refine borA [1, 2] (c_l01Pick o l hb hl a1 ha1 h1 [-1, n + 1, 1099511627776, -4611686018427387904] (by simp)) (fun d rt' hd => ?_)) | (refine borA [1] (c_l01Next o l hb hl a1 ha1 h1 (n + 1)) (fun d rt' hd => ?_)) | ((first | (refine And.intro (fun h => ?_) (fun h => ?_) <;> (try simp only [cnt1, ints_length] at h)) | refine zV ?_) <;> conv => whnf) | fail
 · obtain ⟨y, a2, h2, hy, ha2, rfl, rfl⟩ := hd
   refine ⟨rfl, by simp, ?_⟩
   conv => whnf
   repeat' first | ((first | refine z0 ?_ | (refine And.intro (fun h => ?_) (fun h => ?_) <;> (try simp only [cnt1, ints_length] at h)) | refine zS ?_ | refine zV ?_ | (apply zI; refine zP vObt ?_) | (apply zI; refine zP vObx ?_) | refine zA ?_ | refine Alt.fst ?_ | refine Or.inl ?_) <;> conv => whnf) | fail
   have hy2 : -4611686018427387904 ≤ y ∧ y ≤ 1099511627776 := by
     simp only [List.mem_cons, List.not_mem_nil, or_false] at hy
     omega
   refine ⟨dint y, [none, some (srcR o l a2 h2)], ⟨y, a2, h2, hy2, ha2, rfl, rfl⟩, Weak.of (kp := 2) [none, some 1] ?_⟩
   conv => whnf
   repeat' ((first | refine z1 ?_ | refine zV ?_ | refine And.intro ?_ ?_ | exact trivial) <;> try (conv => whnf))
 · obtain ⟨y, a2, h2, hy, ha2, rfl, rfl⟩ := hd
   refine ⟨rfl, by simp, ?_⟩
   conv => whnf
   have hy2 := hy.2 (by omega)
   repeat' first | ((first | refine z0 ?_ | (refine And.intro (fun h => ?_) (fun h => ?_) <;> (try simp only [cnt1, ints_length] at h)) | refine zS ?_ | refine zV ?_ | (apply zI; refine zP vObt ?_) | (apply zI; refine zP vObx ?_) | refine zA ?_ | refine Alt.fst ?_ | refine Or.inl ?_) <;> conv => whnf) | fail
   refine ⟨dint y, [none, some (srcR o l a2 h2)], ⟨y, a2, h2, by omega, ha2, rfl, rfl⟩, Weak.of (kp := 2) [none, some 1] ?_⟩
   conv => whnf
   repeat' ((first | refine z1 ?_ | refine zV ?_ | refine And.intro ?_ ?_ | exact trivial) <;> try (conv => whnf))
theorem c_l01List (o : Bool) (l : List Nat) (hb : ∀ b ∈ l, b < 256) (hl : l.length ≤ 4611686018427387904) (a : Nat) (ha : a ≤ l.length) (hs : Int) (m : Int) (hm : -5 ≤ m ∧ m ≤ 1099511627776) (n : Int) (hn : n ≤ 100) :
   CallsTo Tryz.prog 392 2 [.ptr 1 [] 0, dint m, dint n] [none, some (srcR o l a hs)]
     (fun d rt => ∃ (us : List Int) (a' : Nat) (h' : Int), us.length = n.toNat ∧ a' ≤ l.length ∧ d = .ref 2 [] 1 0 n.toNat ∧ rt = [none, some (srcR o l a' h'), some ⟨false, 1, ints us⟩]) := by
 refine callsTo_of Tryz.tabOk mixOrd 2 _ Tryz.func392 rfl rfl ?_
 conv => whnf
 repeat' first | ((first | refine z0 ?_ | (refine And.intro (fun h => ?_) (fun h => ?_) <;> (try simp only [cnt1, ints_length] at h)) | refine zS ?_ | refine zV ?_ | (apply zI; refine zP vObt ?_) | (apply zI; refine zP vObx ?_) | refine zA ?_ | refine Alt.fst ?_ | refine Or.inl ?_) <;> conv => whnf) | fail
 refine loop_atR Tryz.tabOk mixOrd (α := List Int × Nat × Int) (fun u => [(2, dint (n - u.1.length)), (7, .ref 2 [] 1 0 u.1.length), (8, .undef)]) (fun u => [(1, some (srcR o l u.2.1 u.2.2)), (2, some ⟨false, 1, ints u.1⟩)]) (fun u => u.1.length ≤ n.toNat ∧ u.2.1 ≤ l.length) (fun u => n.toNat - u.1.length) (([], a, hs)) ?_ ?_ ?_
 · exact ⟨by simp, ha⟩
 · conv => whnf
   first | refine WeakS.autoR ?_ | refine Weak.autoR ?_
   conv => whnf
   repeat' ((first | refine z1 ?_ | refine z2 ?_ | refine zV ?_ | refine And.intro ?_ ?_ | exact trivial) <;> try (conv => whnf))
   all_goals simp
 intro u hu
 obtain ⟨us, a0, h0⟩ := u
 obtain ⟨hu2, ha0⟩ := hu
 simp only at hu2 ha0
 conv => whnf
 by_cases hlt : us.length < n.toNat
 · repeat' first | (refine borA [1] (c_l01Next o l hb hl a0 ha0 h0 m) (fun d rt' hd => ?_)) | ((first | refine Alt.snd (And.intro (show mixOk _ _ = true by decide +kernel) ?_) | (refine And.intro (fun h => ?_) (fun h => ?_) <;> (try simp only [cnt1, ints_length, rows_length, Tb_length, L_length, byts_length] at h) <;> first | (exfalso; first | omega | exact h trivial | (cases h; done)) | skip) | refine zS ?_ | refine zV ?_) <;> conv => whnf) | fail
   obtain ⟨x, a1, h1, hx, ha1, rfl, rfl⟩ := hd
   refine ⟨rfl, by simp, ?_⟩
   conv => whnf
   repeat' first | (refine borA [1] (c_l01Next o l hb hl a1 ha1 h1 m) (fun d rt' hd => ?_)) | fail
   obtain ⟨y, a2, h2, hy, ha2, rfl, rfl⟩ := hd
   refine ⟨rfl, by simp, ?_⟩
   conv => whnf
   repeat' first | (refine borA [1, 3] (c_l01Pick o l hb hl a2 ha2 h2 [0, (1 : Int).tmod (max m 1), x, y] (by simp)) (fun d rt' hd => ?_)) | fail
   obtain ⟨z, a3, h3, hz, ha3, rfl, rfl⟩ := hd
   refine ⟨rfl, by simp, ?_⟩
   conv => whnf
   repeat' first | ((first | refine z0 ?_ | refine And.intro (show (_ : List (Option Root))[_]? = _ from rfl) ?_ | (refine And.intro (fun h => ?_) (fun h => ?_) <;> (try simp only [cnt1, ints_length, rows_length, Tb_length, L_length, byts_length] at h) <;> first | (exfalso; first | omega | exact h trivial | (cases h; done)) | skip) | refine zS ?_ | refine zV ?_ | (apply zI; refine zP vObt ?_) | (apply zI; refine zP vObx ?_)) <;> conv => whnf) | fail
   refine Exists.intro (us ++ [z], a3, h3) (And.intro ⟨by simp only [List.length_append, List.length_singleton]; omega, ha3⟩ (And.intro (by simp only [List.length_append, List.length_singleton]; omega) ?_))
   first | refine WeakS.autoR ?_ | refine Weak.autoR ?_
   conv => whnf
   repeat' ((first | refine z1 ?_ | refine z2 ?_ | refine zV ?_ | refine And.intro ?_ ?_ | exact trivial) <;> try (conv => whnf))
   all_goals first | (simp [ints]; done) | (simp; omega)
 · repeat' first | ((first | refine z0 ?_ | (refine And.intro (fun h => ?_) (fun h => ?_) <;> (try simp only [cnt1, ints_length, rows_length, Tb_length, L_length, byts_length] at h) <;> first | (exfalso; first | omega | exact h trivial | (cases h; done)) | skip) | refine zV ?_ | (apply zI; refine zP vObt ?_) | (apply zI; refine zP vObx ?_)) <;> conv => whnf) | fail
   have e : us.length = n.toNat := by omega
   refine ⟨.ref 2 [] 1 0 n.toNat, [none, some (srcR o l a0 h0), some ⟨false, 1, ints us⟩], ⟨us, a0, h0, e, ha0, rfl, rfl⟩, Weak.of (kp := 2) [none, some 1, some 2] ?_⟩
   conv => whnf
   repeat' ((first | refine z1 ?_ | refine zV ?_ | refine And.intro ?_ ?_ | exact trivial) <;> try (conv => whnf))
theorem c_l01Number (o : Bool) (l : List Nat) (hb : ∀ b ∈ l, b < 256) (hl : l.length ≤ 4611686018427387904) (a : Nat) (ha : a ≤ l.length) (hs : Int) (n : Int) (hn : -5 ≤ n ∧ n ≤ 1099511627776) :
   CallsTo Tryz.prog 295 2 [.ptr 1 [] 0, dint n] [none, some (srcR o l a hs)]
     (fun d rt => ∃ (x : Int) (a' : Nat) (h' : Int), (-4611686018427387904 ≤ x ∧ x ≤ 1099511627776) ∧ a' ≤ l.length ∧ d = dint x ∧ rt = [none, some (srcR o l a' h')]) := by
 refine callsTo_of Tryz.tabOk mixOrd 2 _ Tryz.func295 rfl rfl ?_
 conv => whnf
 repeat' first | (refine borA [1] (c_l01Next o l hb hl a ha hs 24) (fun d rt' hd => ?_)) | fail
 obtain ⟨x, a1, h1, hx, ha1, rfl, rfl⟩ := hd
 refine ⟨rfl, by simp, ?_⟩
 conv => whnf
 have hx2 := hx.2 (by omega)
 repeat' first | (refine borA [1, 2] (c_l01Pick o l hb hl a1 ha1 h1 [-1, n, 1099511627776, -4611686018427387904] (by simp)) (fun d rt' hd => ?_)) | (refine borA [1] (c_l01Next o l hb hl a1 ha1 h1 n) (fun d rt' hd => ?_)) | ((first | (refine And.intro (fun h => ?_) (fun h => ?_) <;> (try simp only [cnt1, ints_length] at h))) <;> conv => whnf) | fail
 · obtain ⟨y, a2, h2, hy, ha2, rfl, rfl⟩ := hd
   refine ⟨rfl, by simp, ?_⟩
   conv => whnf
   repeat' first | ((first | refine z0 ?_ | (refine And.intro (fun h => ?_) (fun h => ?_) <;> (try simp only [cnt1, ints_length] at h)) | refine zS ?_ | refine zV ?_ | (apply zI; refine zP vObt ?_) | (apply zI; refine zP vObx ?_) | refine zA ?_ | refine Alt.fst ?_ | refine Or.inl ?_) <;> conv => whnf) | fail
   have hy2 : -4611686018427387904 ≤ y ∧ y ≤ 1099511627776 := by
     simp only [List.mem_cons, List.not_mem_nil, or_false] at hy
     omega
   refine ⟨dint y, [none, some (srcR o l a2 h2)], ⟨y, a2, h2, hy2, ha2, rfl, rfl⟩, Weak.of (kp := 2) [none, some 1] ?_⟩
   conv => whnf
   repeat' ((first | refine z1 ?_ | refine zV ?_ | refine And.intro ?_ ?_ | exact trivial) <;> try (conv => whnf))
 · obtain ⟨y, a2, h2, hy, ha2, rfl, rfl⟩ := hd
   refine ⟨rfl, by simp, ?_⟩
   conv => whnf
   have hy2 : -4611686018427387904 ≤ y ∧ y ≤ 1099511627776 := by
     rcases Int.lt_or_le n 1 with h9 | h9
     · have := hy.1 h9; omega
     · have := hy.2 h9; omega
   repeat' first | ((first | refine z0 ?_ | (refine And.intro (fun h => ?_) (fun h => ?_) <;> (try simp only [cnt1, ints_length] at h)) | refine zS ?_ | refine zV ?_ | (apply zI; refine zP vObt ?_) | (apply zI; refine zP vObx ?_) | refine zA ?_ | refine Alt.fst ?_ | refine Or.inl ?_) <;> conv => whnf) | fail
   refine ⟨dint y, [none, some (srcR o l a2 h2)], ⟨y, a2, h2, hy2, ha2, rfl, rfl⟩, Weak.of (kp := 2) [none, some 1] ?_⟩
   conv => whnf
   repeat' ((first | refine z1 ?_ | refine zV ?_ | refine And.intro ?_ ?_ | exact trivial) <;> try (conv => whnf))
end Go.Proofs
namespace Go.Proofs
open Go Go.Vm Go.Fg Go.Fg.PS
set_option maxRecDepth 100000
set_option maxHeartbeats 4000000
set_option linter.unusedSimpArgs false
set_option linter.unusedVariables false
end Go.Proofs
namespace Go.Proofs
open Go Go.Vm Go.Fg Go.Fg.PS
set_option maxRecDepth 100000
set_option maxHeartbeats 4000000
set_option linter.unusedSimpArgs false
set_option linter.unusedVariables false
variable {m : Int}
end Go.Proofs
