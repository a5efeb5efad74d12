import Derived.Test.YthpbaehnkmmkgaaGreatK149
import Derived.Test.YthpbaehnkmmkgaaGreatK133
import Derived.Test.YthpbaehnkmmkgaaGreatK138
import Derived.Test.YthpbaehnkmmkgaaGreatK154
import Derived.Test.YthpbaehnkmmkgaaGreatK22
import Derived.Test.YthpbaehnkmmkgaaGreatKP
import Derived.Test.YthpbaehnkmmkgaaGreatK79
import Derived.Test.YthpbaehnkmmkgaaGreatAlg24
namespace Go.Proofs
open Go Go.Vm Go.Fg Go.Fg.PS
set_option maxRecDepth 100000
set_option maxHeartbeats 4000000
set_option linter.unusedSimpArgs false
set_option linter.unusedVariables false
variable {m : Int}
theorem sub_intsT {l : List Int} {off n : Nat} : sub (ints l) 1 off n = ints ((l.drop off).take n) := by
 unfold sub ints
 rw [Nat.mul_one, Nat.mul_one, ← List.map_drop, ← List.map_take]
theorem fz_li {r off n : Nat} {t t' : List Int} (h1 : off + n ≤ t.length) (h2 : (t.drop off).take n = t') : Fz r (ints t) (.ref r [] 1 off n) (.list false 1 (ints t')) :=
 .ref _ _ _ _ (by rw [Nat.mul_one, Nat.mul_one, ints_length]; exact h1) (by rw [sub_intsT, ints_frz, h2])
theorem fz_agg2 {r : Nat} {cs : List D} {a b b' : D} (h : Fz r cs b b') : Fz r cs (.agg [a, b]) (.agg [a, b']) :=
 .agg _ _ rfl (fun i d d' hd hd' => by
   match i, hd, hd' with
   | 0, hd, hd' => simp at hd hd'; subst hd; subst hd'; exact .rfl _
   | 1, hd, hd' => simp at hd hd'; subst hd; subst hd'; exact h
   | i + 2, hd, hd' => simp at hd)
theorem fz_se {r off n : Nat} {t t' : List Int} (h1 : off + n ≤ t.length) (h2 : (t.drop off).take n = t') {x : D} : Fz r (ints t) (.agg [x, .ref r [] 1 off n]) (.agg [x, .list false 1 (ints t')]) := fz_agg2 (fz_li h1 h2)
abbrev seF (m : Int) (l : List Int) : D := .agg [dint m, .list false 1 (ints l)]
theorem c_l01Number (o : Bool) (l : List Nat) (hb : ∀ b ∈ l, b < 256) (hl : l.length ≤ 4611686018427387904) (a : Nat) (ha : a ≤ l.length) (hs : Int) (n : Int) (hn : -5 ≤ n ∧ n ≤ 1099511627776) :
   CallsTo Tryz.prog 196 2 [.ptr 1 [] 0, dint n] [none, some (srcR o l a hs)]
     (fun d rt => ∃ (x : Int) (a' : Nat) (h' : Int), (-4611686018427387904 ≤ x ∧ x ≤ 1099511627776) ∧ a' ≤ l.length ∧ d = dint x ∧ rt = [none, some (srcR o l a' h')]) := by
 refine callsTo_of Tryz.tabOk mixOrd 2 _ Tryz.func196 rfl rfl ?_
 conv => whnf
 repeat' first | (refine borA [1] (c_l01Next o l hb hl a ha hs 24) (fun d rt' hd => ?_)) | ((first | refine z0 ?_ | refine Alt.snd (And.intro (show mixOk _ _ = true by decide +kernel) ?_) | refine And.intro (show (_ : List (Option Root))[_]? = _ from rfl) ?_ | (refine And.intro (fun h => ?_) (fun h => ?_) <;> (try simp only [cnt1, ints_length] at h)) | refine zS ?_ | refine zV ?_ | (apply zI; refine zP vObt ?_) | (apply zI; refine zP vObx ?_) | refine zA ?_ | refine Alt.fst ?_ | refine Or.inl ?_) <;> conv => whnf) | fail
 obtain ⟨x, a1, h1, hx, ha1, rfl, rfl⟩ := hd
 refine ⟨rfl, by simp, ?_⟩
 conv => whnf
 have hx2 := hx.2 (by omega)
 repeat' first | (refine borA [1, 2] (c_l01Pick o l hb hl a1 ha1 h1 [-1, n, 1099511627776, -4611686018427387904] (by simp)) (fun d rt' hd => ?_)) | (refine borA [1] (c_l01Next o l hb hl a1 ha1 h1 n) (fun d rt' hd => ?_)) | ((first | refine z0 ?_ | refine Alt.snd (And.intro (show mixOk _ _ = true by decide +kernel) ?_) | refine And.intro (show (_ : List (Option Root))[_]? = _ from rfl) ?_ | (refine And.intro (fun h => ?_) (fun h => ?_) <;> (try simp only [cnt1, ints_length] at h)) | refine zS ?_ | refine zV ?_ | (apply zI; refine zP vObt ?_) | (apply zI; refine zP vObx ?_) | refine zA ?_ | refine Alt.fst ?_ | refine Or.inl ?_) <;> conv => whnf) | fail
 · obtain ⟨y, a2, h2, hy, ha2, rfl, rfl⟩ := hd
   refine ⟨rfl, by simp, ?_⟩
   conv => whnf
   repeat' first | ((first | refine z0 ?_ | (refine And.intro (fun h => ?_) (fun h => ?_) <;> (try simp only [cnt1, ints_length] at h)) | refine zS ?_ | refine zV ?_ | (apply zI; refine zP vObt ?_) | (apply zI; refine zP vObx ?_) | refine zA ?_ | refine Alt.fst ?_ | refine Or.inl ?_) <;> conv => whnf) | fail
   have hy2 : -4611686018427387904 ≤ y ∧ y ≤ 1099511627776 := by
     simp only [List.mem_cons, List.not_mem_nil, or_false] at hy
     omega
   refine ⟨dint y, [none, some (srcR o l a2 h2)], ⟨y, a2, h2, hy2, ha2, rfl, rfl⟩, Weak.of (kp := 2) [none, some 1] ?_⟩
   conv => whnf
   repeat' ((first | refine z1 ?_ | refine z2 ?_ | refine zV ?_ | refine And.intro ?_ ?_ | exact trivial) <;> try (conv => whnf))
 · obtain ⟨y, a2, h2, hy, ha2, rfl, rfl⟩ := hd
   refine ⟨rfl, by simp, ?_⟩
   conv => whnf
   have hy2 : -4611686018427387904 ≤ y ∧ y ≤ 1099511627776 := by
     rcases Int.lt_or_le n 1 with h9 | h9
     · have := hy.1 h9; omega
     · have := hy.2 h9; omega
   repeat' first | ((first | refine z0 ?_ | (refine And.intro (fun h => ?_) (fun h => ?_) <;> (try simp only [cnt1, ints_length] at h)) | refine zS ?_ | refine zV ?_ | (apply zI; refine zP vObt ?_) | (apply zI; refine zP vObx ?_) | refine zA ?_ | refine Alt.fst ?_ | refine Or.inl ?_) <;> conv => whnf) | fail
   refine ⟨dint y, [none, some (srcR o l a2 h2)], ⟨y, a2, h2, hy2, ha2, rfl, rfl⟩, Weak.of (kp := 2) [none, some 1] ?_⟩
   conv => whnf
   repeat' ((first | refine z1 ?_ | refine z2 ?_ | refine zV ?_ | refine And.intro ?_ ?_ | exact trivial) <;> try (conv => whnf))
end Go.Proofs
namespace Go.Proofs
open Go Go.Vm Go.Fg Go.Fg.PS
set_option maxRecDepth 100000
set_option maxHeartbeats 4000000
set_option linter.unusedSimpArgs false
set_option linter.unusedVariables false
variable {m : Int}
theorem c_series5 (o o' : Bool) (m m' : Int) (l l' : List Int) (hl : l.length ≤ 9223372036854775807) (hl' : l'.length ≤ 9223372036854775807) : PureCall Tryz.prog 25 [.agg [dint m, .list o 1 (ints l)], .agg [dint m', .list o' 1 (ints l')]] (dbool (decide (m = m') && decide (l = l'))) := by
 refine pure_of_vcR Tryz.tabOk mixOrd Tryz.func25 rfl rfl ?_
 conv => whnf
 repeat' first | ((first | refine z0 ?_ | (apply zI; refine zP (c_likeInts _ _ _ _ hl hl') ?_) | (refine And.intro (fun h => ?_) (fun h => ?_) <;> (try simp only [cnt1, ints_length] at h)) | refine zS ?_ | refine zV ?_ | (apply zI; refine zP vObt ?_) | (apply zI; refine zP vObx ?_) | refine zA ?_ | refine Alt.fst ?_ | refine Or.inl ?_) <;> conv => whnf) | fail
 all_goals (refine dbool_congr ?_; first | rfl | (simp_all []; done) | (simp_all []; omega) | (simp_all []; intros; omega))
theorem c_series5Nil : PureCall Tryz.prog 25 [zserD, zserD] (dbool true) := by
 refine pure_of_vcR Tryz.tabOk mixOrd Tryz.func25 rfl rfl ?_
 conv => whnf
 repeat' first | ((first | refine z0 ?_ | (apply zI; refine zP (c_likeNil) ?_) | (refine And.intro (fun h => ?_) (fun h => ?_) <;> (try simp only [cnt1, ints_length, rows_length, Tb_length, L_length, byts_length] at h) <;> first | (exfalso; first | omega | exact h trivial | (cases h; done)) | skip) | refine zS ?_ | refine zV ?_ | (apply zI; refine zP vObt ?_) | (apply zI; refine zP vObx ?_) | refine zA ?_ | refine Alt.fst ?_ | refine Or.inl ?_) <;> conv => whnf) | fail
end Go.Proofs
