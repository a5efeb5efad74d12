import Derived.Test.YtndhpcigpghejaaGreatK128
namespace Go.Proofs
open Go Go.Vm Go.Fg Go.Fg.PS
set_option maxRecDepth 100000
set_option maxHeartbeats 4000000
set_option linter.unusedSimpArgs false
set_option linter.unusedVariables false
variable {m : Int}
theorem fz_one {r : Nat} {cs : List D} {d d' : D} (h : Fz r cs d d') : ∀ i, Fz r cs ([d].getD i .undef) ([d'].getD i .undef)
 | 0 => h
 | i + 1 => .rfl _
theorem rows_frz1 (o : Bool) (t : List (List Int)) : (rows o t).map frz1 = rows false t := by
 simp [rows, Function.comp_def, frz1]
theorem sub_rowsT {o : Bool} {t : List (List Int)} {off n : Nat} : sub (rows o t) 1 off n = rows o ((t.drop off).take n) := by
 unfold sub rows
 rw [Nat.mul_one, Nat.mul_one, ← List.map_drop, ← List.map_take]
theorem fz_pl {r off n : Nat} {t t' : List (List Int)} (h1 : off + n ≤ t.length) (h2 : (t.drop off).take n = t') {x : D} : Fz r (rows true t) (.agg [x, .ref r [] 1 off n]) (.agg [x, .list false 1 (rows false t')]) :=
 .agg _ _ rfl (fun i d d' hd hd' => by
   match i, hd, hd' with
   | 0, hd, hd' => simp at hd hd'; subst hd; subst hd'; exact .rfl _
   | 1, hd, hd' =>
     simp at hd hd'; subst hd; subst hd'
     exact .ref _ _ _ _ (by rw [Nat.mul_one, Nat.mul_one, rows_length]; exact h1) (by rw [sub_rowsT, rows_frz1, h2])
   | i + 2, hd, hd' => simp at hd)
theorem fz_plnil {r : Nat} {cs : List D} {x : D} : Fz r cs (.agg [x, .lit (.slice none 0 0)]) (.agg [x, .list false 1 (rows false [])]) :=
 .agg _ _ rfl (fun i d d' hd hd' => by
   match i, hd, hd' with
   | 0, hd, hd' => simp at hd hd'; subst hd; subst hd'; exact .rfl _
   | 1, hd, hd' => simp at hd hd'; subst hd; subst hd'; exact .nil _
   | i + 2, hd, hd' => simp at hd)
def smT (t : List (List Int)) : Prop := t.length ≤ 11 ∧ ∀ k, (t.getD k []).length ≤ 11
theorem smT_lens {t : List (List Int)} (h : smT t) : t.length ≤ 1048576 ∧ lensOk t := ⟨by have := h.1; omega, fun i _ => by have := h.2 i; omega⟩
theorem smT_Tb {n : Nat} (hn : n ≤ 11) (f : PS (PS (Zm m))) : smT (Tb n f) := by
 refine ⟨by simp; omega, fun k => ?_⟩
 by_cases h : k < n
 · rw [Tb_getD f h]; simp; omega
 · rw [List.getD_eq_getElem?_getD, List.getElem?_eq_none (by simp; omega)]; simp
theorem smT_set {t : List (List Int)} (h : smT t) (i j : Nat) (x : Int) : smT (setT t i j x) := by
 unfold setT
 refine ⟨by rw [List.length_set]; exact h.1, fun k => ?_⟩
 by_cases e : i = k
 · subst e
   by_cases hl : i < t.length
   · rw [List.getD_eq_getElem?_getD, List.getElem?_set_self hl]; simp only [Option.getD_some, List.length_set]; exact h.2 i
   · rw [List.getD_eq_getElem?_getD, List.getElem?_eq_none (by rw [List.length_set]; omega)]; simp
 · rw [List.getD_eq_getElem?_getD, List.getElem?_set_ne e, ← List.getD_eq_getElem?_getD]; exact h.2 k
theorem setT_length (t : List (List Int)) (i j : Nat) (x : Int) : (setT t i j x).length = t.length := by unfold setT; rw [List.length_set]
theorem smT_drop {t : List (List Int)} (h : smT t) : smT (t.drop 1) := by
 refine ⟨by rw [List.length_drop]; have := h.1; omega, fun k => ?_⟩
 rw [List.getD_eq_getElem?_getD, List.getElem?_drop, ← List.getD_eq_getElem?_getD]; exact h.2 _
theorem smT_nil : smT [] := ⟨by simp, fun k => by simp⟩
abbrev Wei : Prop := ∀ (m : Int) (hm : Md m) (n : Nat) (hn : 2 ≤ n ∧ n ≤ 11) (d : Int) (hd : d + 1 = n) (o : Bool) (a : PS (Zm m)), ∃ F : PS (PS (Zm m)), PureCall Tryz.prog 184 [dint m, dint d, LD o 5 a] (TbD true true n F)
theorem c_l04Draw (hW : Wei) (o : Bool) (l : List Nat) (hb : ∀ b ∈ l, b < 256) (hl : l.length ≤ 4611686018427387904) (a : Nat) (ha : a ≤ l.length) (hs : Int) :
   CallsTo Tryz.prog 384 2 [.ptr 1 [] 0] [none, some (srcR o l a hs)]
     (fun d rt => ∃ (m : Int) (n : Nat) (F : PS (PS (Zm m))) (a' : Nat) (h' : Int), Md m ∧ m ≤ 9973 ∧ (2 ≤ n ∧ n ≤ 11) ∧ a' ≤ l.length ∧ d = .agg [dint m, .ref 2 [] 1 0 n] ∧ rt = [none, some (srcR o l a' h'), some ⟨false, 1, rows true (Tb n F)⟩]) := by
 refine callsTo_of Tryz.tabOk mixOrd 2 _ Tryz.func384 rfl rfl ?_
 conv => whnf
 repeat' first | (refine borA [1] (c_l04DrawModulus o l hb hl a ha hs) (fun d rt' hd => ?_)) | fail
 obtain ⟨m, a1, h1, hm0, ha1, rfl, rfl⟩ := hd
 refine ⟨rfl, by simp, ?_⟩
 conv => whnf
 have hm : Md m := ⟨hm0.1, by omega⟩
 repeat' first | (refine borA [1] (c_l01Next o l hb hl a1 ha1 h1 10) (fun d rt' hd => ?_)) | fail
 obtain ⟨x, a2, h2, hx, ha2, rfl, rfl⟩ := hd
 refine ⟨rfl, by simp, ?_⟩
 conv => whnf
 have hx2 := hx.2 (by omega)
 repeat' first | (refine borA [1, 3] (c_l01Pick o l hb hl a2 ha2 h2 [1, 2, 3, 4, 6, 9, x] (by simp)) (fun d rt' hd => ?_)) | fail
 obtain ⟨v, a3, h3, hv, ha3, rfl, rfl⟩ := hd
 refine ⟨rfl, by simp, ?_⟩
 conv => whnf
 have hv2 : 0 ≤ v ∧ v ≤ 9 := by
   simp only [List.mem_cons, List.not_mem_nil, or_false] at hv
   omega
 repeat' first | (refine borA [1] (c_l04With hm o l hb hl a3 ha3 h3 (v + 2).toNat (by omega) (d := 1 + v) (by omega) (fun o a => hW m hm (v + 2).toNat (by omega) (1 + v) (by omega) o a)) (fun d rt' hd => ?_)) | ((first | refine zV ?_) <;> conv => whnf) | fail
 obtain ⟨F, a4, h4, ha4, rfl, rfl⟩ := hd
 refine ⟨rfl, by simp, ?_⟩
 conv => whnf
 repeat' first | ((first | refine z0 ?_ | (refine And.intro (fun h => ?_) (fun h => ?_) <;> (try simp only [cnt1, ints_length] at h)) | refine zS ?_ | refine zV ?_ | (apply zI; refine zP vObt ?_) | (apply zI; refine zP vObx ?_) | refine zA ?_ | refine Alt.fst ?_ | refine Or.inl ?_) <;> conv => whnf) | fail
 first
   | (refine ⟨.agg [dint m, .ref 2 [] 1 0 (v + 2).toNat], [none, some (srcR o l a4 h4), some ⟨false, 1, rows true (Tb (v + 2).toNat F)⟩], ⟨m, (v + 2).toNat, F, a4, h4, hm, by omega, by omega, ha4, rfl, rfl⟩, Weak.of (kp := 2) [none, some 1, some 2] ?_⟩
      (conv => whnf)
      repeat' ((first | refine And.intro rfl ?_ | exact trivial) <;> try (conv => whnf))
      done)
   | (refine ⟨.agg [dint m, .ref 2 [] 1 0 (v + 2).toNat], [none, some (srcR o l a4 h4), some ⟨false, 1, rows true (Tb (v + 2).toNat F)⟩], ⟨m, (v + 2).toNat, F, a4, h4, hm, by omega, by omega, ha4, rfl, rfl⟩, Weak.of (kp := 2) [none, some 1, some 3] ?_⟩
      (conv => whnf)
      repeat' ((first | refine And.intro rfl ?_ | exact trivial) <;> try (conv => whnf))
      done)
   | (refine ⟨.agg [dint m, .ref 2 [] 1 0 (v + 2).toNat], [none, some (srcR o l a4 h4), some ⟨false, 1, rows true (Tb (v + 2).toNat F)⟩], ⟨m, (v + 2).toNat, F, a4, h4, hm, by omega, by omega, ha4, rfl, rfl⟩, Weak.of (kp := 2) [none, some 1, some 4] ?_⟩
      (conv => whnf)
      repeat' ((first | refine And.intro rfl ?_ | exact trivial) <;> try (conv => whnf))
      done)
   | (refine ⟨.agg [dint m, .ref 2 [] 1 0 (v + 2).toNat], [none, some (srcR o l a4 h4), some ⟨false, 1, rows true (Tb (v + 2).toNat F)⟩], ⟨m, (v + 2).toNat, F, a4, h4, hm, by omega, by omega, ha4, rfl, rfl⟩, Weak.of (kp := 2) [none, some 1, some 5] ?_⟩
      (conv => whnf)
      repeat' ((first | refine And.intro rfl ?_ | exact trivial) <;> try (conv => whnf))
      done)
   | (refine ⟨.agg [dint m, .ref 2 [] 1 0 (v + 2).toNat], [none, some (srcR o l a4 h4), some ⟨false, 1, rows true (Tb (v + 2).toNat F)⟩], ⟨m, (v + 2).toNat, F, a4, h4, hm, by omega, by omega, ha4, rfl, rfl⟩, Weak.of (kp := 2) [none, some 1, some 6] ?_⟩
      (conv => whnf)
      repeat' ((first | refine And.intro rfl ?_ | exact trivial) <;> try (conv => whnf))
      done)
   | (refine ⟨.agg [dint m, .ref 2 [] 1 0 (v + 2).toNat], [none, some (srcR o l a4 h4), some ⟨false, 1, rows true (Tb (v + 2).toNat F)⟩], ⟨m, (v + 2).toNat, F, a4, h4, hm, by omega, by omega, ha4, rfl, rfl⟩, Weak.of (kp := 2) [none, some 1, some 7] ?_⟩
      (conv => whnf)
      repeat' ((first | refine And.intro rfl ?_ | exact trivial) <;> try (conv => whnf))
      done)
theorem c_l04Spoil (hW : Wei) (o : Bool) (l : List Nat) (hb : ∀ b ∈ l, b < 256) (hl : l.length ≤ 4611686018427387904) (a : Nat) (ha : a ≤ l.length) (hs : Int) :
   CallsTo Tryz.prog 254 2 [.ptr 1 [] 0] [none, some (srcR o l a hs)]
     (fun d rt => ∃ (m : Int) (t : List (List Int)) (a' : Nat) (h' : Int), (1 ≤ m ∧ m ≤ 10001) ∧ smT t ∧ a' ≤ l.length ∧ d = .agg [dint m, .list false 1 (rows false t)] ∧ rt = [none, some (srcR o l a' h')]) := by
 refine callsTo_of Tryz.tabOk mixOrd 2 _ Tryz.func254 rfl rfl ?_
 conv => whnf
 repeat' first | (refine borA [1] (c_l04Draw hW o l hb hl a ha hs) (fun d rt' hd => ?_)) | fail
 obtain ⟨m, n, F, a1, h1, hm, hm9, hn, ha1, rfl, rfl⟩ := hd
 refine ⟨rfl, by simp, ?_⟩
 conv => whnf
 repeat' first | (refine borA [1] (c_l01Next o l hb hl a1 ha1 h1 n) (fun d rt' hd => ?_)) | fail
 obtain ⟨i, a2, h2, hi, ha2, rfl, rfl⟩ := hd
 refine ⟨rfl, by simp, ?_⟩
 conv => whnf
 have hi2 := hi.2 (by omega)
 repeat' first | (refine borA [1] (c_l01Next o l hb hl a2 ha2 h2 24) (fun d rt' hd => ?_)) | ((first | refine zV ?_ | (apply zI; refine zP vObx ?_)) <;> conv => whnf) | fail
 obtain ⟨x, a3, h3, hx, ha3, rfl, rfl⟩ := hd
 refine ⟨rfl, by simp, ?_⟩
 conv => whnf
 have hx2 := hx.2 (by omega)
 have hm1 := hm.1
 have hm2 := hm.2
 have hnm : (cnt 1 (ints (L (n - i.toNat) (F.c i.toNat))) : Nat) = n - i.toNat := by simp [cnt1]
 repeat' first | (refine borA [1] (c_l01Next o l hb hl a3 ha3 h3 (cnt 1 (ints (L (n - i.toNat) (F.c i.toNat))) : Nat)) (fun d rt' hd => ?_)) | (refine borA [1, 5] (c_l01Pick o l hb hl a3 ha3 h3 [1, 10001, 2] (by simp)) (fun d rt' hd => ?_)) | ((refine And.intro (show mixOk _ _ = true by decide +kernel) ?_; conv => whnf)) | ((first | refine z0 ?_ | (refine And.intro (fun h => ?_) (fun h => ?_) <;> (try simp only [cnt1, ints_length] at h) <;> first | (exfalso; omega) | skip) | refine zV ?_ | refine Or.inl ?_) <;> conv => whnf) | fail
 · obtain ⟨y, a4, h4, hy, ha4, rfl, rfl⟩ := hd
   refine ⟨rfl, by simp, ?_⟩
   conv => whnf
   have hy2 := hy.2 (by omega)
   repeat' first | (refine borA [1] (c_l01Next o l hb hl a4 ha4 h4 (m + 1)) (fun d rt' hd => ?_)) | ((refine And.intro (show (_ : List (Option Root))[_]? = _ from rfl) ?_; conv => whnf)) | fail
   obtain ⟨z, a5, h5, hz, ha5, rfl, rfl⟩ := hd
   refine ⟨rfl, by simp, ?_⟩
   conv => whnf
   repeat' first | ((refine And.intro (show (_ : List (Option Root))[_]? = _ from rfl) ?_; conv => whnf)) | ((first | refine z0 ?_ | refine zV ?_ | (apply zI; refine zP vObt ?_)) <;> conv => whnf) | fail
   have hz2 := hz.2 (by omega)
   first
     | (refine ⟨.agg [dint (m), .list false 1 (rows false (setT (Tb n F) i.toNat y.toNat z))], [none, some (srcR o l a5 h5)], ⟨m, setT (Tb n F) i.toNat y.toNat z, a5, h5, ⟨by have := hm.1; omega, by omega⟩, smT_set (smT_Tb (by omega) F) _ _ _, ha5, rfl, rfl⟩, Weak.trans (Weak.freezeR (kp := 2) (r := 3) (s0 := 1) (env' := [.agg [dint (m), .list false 1 (rows false (setT (Tb n F) i.toNat y.toNat z))]]) rfl rfl (fz_one (fz_pl (by rw [setT_length]; simp) (by rw [List.drop_zero, List.take_of_length_le (by rw [setT_length]; simp)])))) (Weak.of (kp := 2) [none, some 1] ?_)⟩
        (conv => whnf)
        repeat' ((first | refine And.intro rfl ?_ | exact trivial) <;> try (conv => whnf))
        done)
 · obtain ⟨y, a4, h4, hy, ha4, rfl, rfl⟩ := hd
   refine ⟨rfl, by simp, ?_⟩
   conv => whnf
   have hy2 : 1 ≤ y ∧ y ≤ 10001 := by
     simp only [List.mem_cons, List.not_mem_nil, or_false] at hy
     omega
   repeat' first | ((first | refine z0 ?_ | (refine And.intro (fun h => ?_) (fun h => ?_) <;> (try simp only [cnt1, ints_length] at h) <;> first | (exfalso; omega) | skip) | refine zS ?_ | refine zV ?_ | (apply zI; refine zP vObt ?_) | (apply zI; refine zP vObx ?_)) <;> conv => whnf) | fail
   first
     | (refine ⟨.agg [dint (y), .list false 1 (rows false (Tb n F))], [none, some (srcR o l a4 h4)], ⟨y, Tb n F, a4, h4, hy2, smT_Tb (by omega) F, ha4, rfl, rfl⟩, Weak.trans (Weak.freezeR (kp := 2) (r := 3) (s0 := 1) (env' := [.agg [dint (y), .list false 1 (rows false (Tb n F))]]) rfl rfl (fz_one (fz_pl (by simp) (by rw [List.drop_zero, List.take_of_length_le (by simp)])))) (Weak.of (kp := 2) [none, some 1] ?_)⟩
        (conv => whnf)
        repeat' ((first | refine And.intro rfl ?_ | exact trivial) <;> try (conv => whnf))
        done)
 · first
     | (refine ⟨.agg [dint (m), .list false 1 (rows false ((Tb n F).drop 1))], [none, some (srcR o l a3 h3)], ⟨m, (Tb n F).drop 1, a3, h3, ⟨by have := hm.1; omega, by omega⟩, smT_drop (smT_Tb (by omega) F), ha3, rfl, rfl⟩, Weak.trans (Weak.freezeR (kp := 2) (r := 3) (s0 := 1) (env' := [.agg [dint (m), .list false 1 (rows false ((Tb n F).drop 1))]]) rfl rfl (fz_one (fz_pl (by simp; omega) (by simp [List.take_of_length_le])))) (Weak.of (kp := 2) [none, some 1] ?_)⟩
        (conv => whnf)
        repeat' ((first | refine And.intro rfl ?_ | exact trivial) <;> try (conv => whnf))
        done)
 · first
     | (refine ⟨.agg [dint (m), .list false 1 (rows false ([]))], [none, some (srcR o l a3 h3)], ⟨m, [], a3, h3, ⟨by have := hm.1; omega, by omega⟩, smT_nil, ha3, rfl, rfl⟩, Weak.trans (Weak.freezeR (kp := 2) (r := 3) (s0 := 1) (env' := [.agg [dint (m), .list false 1 (rows false ([]))]]) rfl rfl (fz_one fz_plnil)) (Weak.of (kp := 2) [none, some 1] ?_)⟩
        (conv => whnf)
        repeat' ((first | refine And.intro rfl ?_ | exact trivial) <;> try (conv => whnf))
        done)
 · first
     | (refine ⟨.agg [dint (m), .list false 1 (rows false (Tb n F))], [none, some (srcR o l a3 h3)], ⟨m, Tb n F, a3, h3, ⟨by have := hm.1; omega, by omega⟩, smT_Tb (by omega) F, ha3, rfl, rfl⟩, Weak.trans (Weak.freezeR (kp := 2) (r := 3) (s0 := 1) (env' := [.agg [dint (m), .list false 1 (rows false (Tb n F))]]) rfl rfl (fz_one (fz_pl (by simp) (by rw [List.drop_zero, List.take_of_length_le (by simp)])))) (Weak.of (kp := 2) [none, some 1] ?_)⟩
        (conv => whnf)
        repeat' ((first | refine And.intro rfl ?_ | exact trivial) <;> try (conv => whnf))
        done)
end Go.Proofs
