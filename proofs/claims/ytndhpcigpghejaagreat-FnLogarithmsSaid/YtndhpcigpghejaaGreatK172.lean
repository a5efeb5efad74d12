import Derived.Test.YtndhpcigpghejaaGreatK170
import Derived.Test.YtndhpcigpghejaaGreatK142
import Derived.Test.YtndhpcigpghejaaGreatK45
namespace Go.Proofs
open Go Go.Vm Go.Fg Go.Fg.PS
set_option maxRecDepth 100000
set_option maxHeartbeats 4000000
set_option linter.unusedSimpArgs false
set_option linter.unusedVariables false
variable {m : Int}
theorem c_l05Draw (hW : Wei) (o : Bool) (l : List Nat) (hb : ∀ b ∈ l, b < 256) (hl : l.length ≤ 4611686018427387904) (a : Nat) (ha : a ≤ l.length) (hs : Int) :
   CallsTo Tryz.prog 225 2 [.ptr 1 [] 0] [none, some (srcR o l a hs)]
     (fun d rt => ∃ (m : Int) (t : List (List Int)) (a' : Nat) (h' : Int), (1 ≤ m ∧ m ≤ 10001) ∧ smT t ∧ a' ≤ l.length ∧ d = plF m t ∧ rt = [none, some (srcR o l a' h')]) := by
 refine callsTo_of Tryz.tabOk mixOrd 2 _ Tryz.func225 rfl rfl ?_
 conv => whnf
 repeat' first | (refine borA [1] (c_l01Next o l hb hl a ha hs 6) (fun d rt' hd => ?_)) | ((first | refine z0 ?_ | (refine And.intro (fun h => ?_) (fun h => ?_) <;> (try simp only [cnt1, ints_length] at h)) | refine zS ?_ | refine zV ?_ | (apply zI; refine zP vObt ?_) | (apply zI; refine zP vObx ?_) | refine zA ?_ | refine Alt.fst ?_ | refine Or.inl ?_) <;> conv => whnf) | fail
 obtain ⟨x, a1, h1, hx, ha1, rfl, rfl⟩ := hd
 refine ⟨rfl, by simp, ?_⟩
 conv => whnf
 have hx2 := hx.2 (by omega)
 repeat' first | (refine borA [1] (c_l04Spoil hW o l hb hl a1 ha1 h1) (fun d rt' hd => ?_)) | (refine borA [1, 2] (c_l01Pick o l hb hl a1 ha1 h1 [11, 13, 101, 9973, 121] (by simp)) (fun d rt' hd => ?_)) | (refine borA [1, 3] (c_l01Pick o l hb hl a1 ha1 h1 [11, 13, 101, 9973, 121] (by simp)) (fun d rt' hd => ?_)) | (refine borA [1, 4] (c_l01Pick o l hb hl a1 ha1 h1 [11, 13, 101, 9973, 121] (by simp)) (fun d rt' hd => ?_)) | (refine borA [1, 5] (c_l01Pick o l hb hl a1 ha1 h1 [11, 13, 101, 9973, 121] (by simp)) (fun d rt' hd => ?_)) | (refine borA [1, 6] (c_l01Pick o l hb hl a1 ha1 h1 [11, 13, 101, 9973, 121] (by simp)) (fun d rt' hd => ?_)) | (refine borA [1, 7] (c_l01Pick o l hb hl a1 ha1 h1 [11, 13, 101, 9973, 121] (by simp)) (fun d rt' hd => ?_)) | ((first | refine z0 ?_ | refine Alt.snd (And.intro (show mixOk _ _ = true by decide +kernel) ?_) | refine And.intro (show (_ : List (Option Root))[_]? = _ from rfl) ?_ | (refine And.intro (fun h => ?_) (fun h => ?_) <;> (try simp only [cnt1, ints_length, rows_length, Tb_length, L_length, byts_length] at h) <;> first | (exfalso; first | omega | exact h trivial | (cases h; done)) | skip) | refine zS ?_ | refine zV ?_ | (apply zI; refine zP vObt ?_) | (apply zI; refine zP vObx ?_) | refine zA ?_ | refine Alt.fst ?_ | refine Or.inl ?_) <;> conv => whnf) | fail
 · obtain ⟨m, t, a2, h2, hm, ht, ha2, rfl, rfl⟩ := hd
   refine ⟨rfl, by simp, ?_⟩
   conv => whnf
   repeat' first | ((first | refine z0 ?_ | refine Alt.snd (And.intro (show mixOk _ _ = true by decide +kernel) ?_) | refine And.intro (show (_ : List (Option Root))[_]? = _ from rfl) ?_ | (refine And.intro (fun h => ?_) (fun h => ?_) <;> (try simp only [cnt1, ints_length, rows_length, Tb_length, L_length, byts_length] at h) <;> first | (exfalso; first | omega | exact h trivial | (cases h; done)) | skip) | refine zS ?_ | refine zV ?_ | (apply zI; refine zP vObt ?_) | (apply zI; refine zP vObx ?_) | refine zA ?_ | refine Alt.fst ?_ | refine Or.inl ?_) <;> conv => whnf) | fail
   refine ⟨plF m t, [none, some (srcR o l a2 h2)], ⟨m, t, a2, h2, hm, ht, ha2, rfl, rfl⟩, Weak.of (kp := 2) [none, some 1] ?_⟩
   conv => whnf
   repeat' ((first | refine z1 ?_ | refine z2 ?_ | refine zV ?_ | refine And.intro ?_ ?_ | exact trivial) <;> try (conv => whnf))
 · obtain ⟨m, a2, h2, hm, ha2, rfl, rfl⟩ := hd
   refine ⟨rfl, by simp, ?_⟩
   conv => whnf
   have hmd : Md m := by
     simp only [List.mem_cons, List.not_mem_nil, or_false] at hm
     rcases hm with rfl | rfl | rfl | rfl | rfl <;> exact ⟨by decide, by decide⟩
   have hm1 := hmd.1
   have hm2 := hmd.2
   repeat' first | (refine borA [1] (c_l01Next o l hb hl a2 ha2 h2 10) (fun d rt' hd => ?_)) | ((first | refine z0 ?_ | refine Alt.snd (And.intro (show mixOk _ _ = true by decide +kernel) ?_) | refine And.intro (show (_ : List (Option Root))[_]? = _ from rfl) ?_ | (refine And.intro (fun h => ?_) (fun h => ?_) <;> (try simp only [cnt1, ints_length, rows_length, Tb_length, L_length, byts_length] at h) <;> first | (exfalso; first | omega | exact h trivial | (cases h; done)) | skip) | refine zS ?_ | refine zV ?_ | (apply zI; refine zP vObt ?_) | (apply zI; refine zP vObx ?_) | refine zA ?_ | refine Alt.fst ?_ | refine Or.inl ?_) <;> conv => whnf) | fail
   obtain ⟨v, a3, h3, hv, ha3, rfl, rfl⟩ := hd
   refine ⟨rfl, by simp, ?_⟩
   conv => whnf
   have hv2 := hv.2 (by omega)
   repeat' first | (refine borA [1] (c_l04With hmd o l hb hl a3 ha3 h3 (v + 2).toNat (by omega) (d := 1 + v) (by omega) (fun o a => hW m hmd (v + 2).toNat (by omega) (1 + v) (by omega) o a)) (fun d rt' hd => ?_)) | ((first | refine z0 ?_ | refine Alt.snd (And.intro (show mixOk _ _ = true by decide +kernel) ?_) | refine And.intro (show (_ : List (Option Root))[_]? = _ from rfl) ?_ | (refine And.intro (fun h => ?_) (fun h => ?_) <;> (try simp only [cnt1, ints_length, rows_length, Tb_length, L_length, byts_length] at h) <;> first | (exfalso; first | omega | exact h trivial | (cases h; done)) | skip) | refine zS ?_ | refine zV ?_ | (apply zI; refine zP vObt ?_) | (apply zI; refine zP vObx ?_) | refine zA ?_ | refine And.intro ((inR64 (by omega) (by omega))) ?_ | refine Alt.fst ?_ | refine Or.inl ?_) <;> conv => whnf) | fail
   obtain ⟨F, a4, h4, ha4, rfl, rfl⟩ := hd
   refine ⟨rfl, by simp, ?_⟩
   conv => whnf
   repeat' first | ((first | refine z0 ?_ | refine Alt.snd (And.intro (show mixOk _ _ = true by decide +kernel) ?_) | refine And.intro (show (_ : List (Option Root))[_]? = _ from rfl) ?_ | (refine And.intro (fun h => ?_) (fun h => ?_) <;> (try simp only [cnt1, ints_length, rows_length, Tb_length, L_length, byts_length] at h) <;> first | (exfalso; first | omega | exact h trivial | (cases h; done)) | skip) | refine zS ?_ | refine zV ?_ | (apply zI; refine zP vObt ?_) | (apply zI; refine zP vObx ?_) | refine zA ?_ | refine Alt.fst ?_ | refine Or.inl ?_) <;> conv => whnf) | fail
   first
     | (refine ⟨plF m (Tb (v + 2).toNat F), [none, some (srcR o l a4 h4)], ⟨m, Tb (v + 2).toNat F, a4, h4, ⟨by omega, by omega⟩, smT_Tb (by omega) F, ha4, rfl, rfl⟩, Weak.trans (Weak.freezeR (kp := 2) (r := 4) (s0 := 1) (env' := [plF m (Tb (v + 2).toNat F)]) rfl rfl (fz_one (fz_pl (by simp) (by rw [List.drop_zero, List.take_of_length_le (by simp)])))) (wkA (kp := 2) [none, some 1])⟩)
theorem c_DrawLogarithmOf (hW : Wei) (o : Bool) (l : List Nat) (hb : ∀ b ∈ l, b < 256) (hl : l.length ≤ 4611686018427387904) :
   CallsTo Tryz.prog 59 1 [.list o 1 (byts l)] [none]
     (fun d rt => ∃ (m : Int) (t : List (List Int)), ((1 ≤ m ∧ m ≤ 10001) ∧ smT t) ∧ d = plF m t ∧ rt = [none]) := by
 refine callsTo_of Tryz.tabOk mixOrd 1 _ Tryz.func59 rfl rfl ?_
 conv => whnf
 repeat' first | (refine borA [] (c_l01From o l hb hl) (fun d rt' hd => ?_)) | ((first | refine z0 ?_ | (refine And.intro (fun h => ?_) (fun h => ?_) <;> (try simp only [cnt1, ints_length] at h)) | refine zS ?_ | refine zV ?_ | (apply zI; refine zP vObt ?_) | (apply zI; refine zP vObx ?_) | refine zA ?_ | refine Alt.fst ?_ | refine Or.inl ?_) <;> conv => whnf) | fail
 obtain ⟨h0, rfl, rfl⟩ := hd
 refine ⟨rfl, by simp, ?_⟩
 conv => whnf
 repeat' first | (refine borA [1] (c_l05Draw hW o l hb hl 0 (by omega) h0) (fun d rt' hd => ?_)) | (refine borA [2] (c_l05Draw hW o l hb hl 0 (by omega) h0) (fun d rt' hd => ?_)) | (refine borA [3] (c_l05Draw hW o l hb hl 0 (by omega) h0) (fun d rt' hd => ?_)) | (refine borA [4] (c_l05Draw hW o l hb hl 0 (by omega) h0) (fun d rt' hd => ?_)) | ((first | refine z0 ?_ | refine Alt.snd (And.intro (show mixOk _ _ = true by decide +kernel) ?_) | refine And.intro (show (_ : List (Option Root))[_]? = _ from rfl) ?_ | (refine And.intro (fun h => ?_) (fun h => ?_) <;> (try simp only [cnt1, ints_length] at h)) | refine zS ?_ | refine zV ?_ | (apply zI; refine zP vObt ?_) | (apply zI; refine zP vObx ?_) | refine zA ?_ | refine Alt.fst ?_ | refine Or.inl ?_) <;> conv => whnf) | fail
 obtain ⟨m, t, a1, h1, hm, ht, ha1, rfl, rfl⟩ := hd
 refine ⟨rfl, by simp, ?_⟩
 conv => whnf
 repeat' first | ((first | refine z0 ?_ | refine Alt.snd (And.intro (show mixOk _ _ = true by decide +kernel) ?_) | refine And.intro (show (_ : List (Option Root))[_]? = _ from rfl) ?_ | (refine And.intro (fun h => ?_) (fun h => ?_) <;> (try simp only [cnt1, ints_length] at h)) | refine zS ?_ | refine zV ?_ | (apply zI; refine zP vObt ?_) | (apply zI; refine zP vObx ?_) | refine zA ?_ | refine Alt.fst ?_ | refine Or.inl ?_) <;> conv => whnf) | fail
 refine ⟨plF m t, [none], ⟨m, t, ⟨hm, ht⟩, rfl, rfl⟩, Weak.of (kp := 1) [none] ?_⟩
 conv => whnf
 repeat' ((first | refine z1 ?_ | refine z2 ?_ | refine zV ?_ | refine And.intro ?_ ?_ | exact trivial) <;> try (conv => whnf))
theorem c_DrawMultipleByLogarithm (hW : Wei) (o : Bool) (l : List Nat) (hb : ∀ b ∈ l, b < 256) (hl : l.length ≤ 4611686018427387904) :
   CallsTo Tryz.prog 67 1 [.list o 1 (byts l)] [none]
     (fun d rt => ∃ (m : Int) (t : List (List Int)) (n : Int), ((1 ≤ m ∧ m ≤ 10001) ∧ smT t) ∧ (-1 ≤ n ∧ n ≤ 1000001) ∧ d = .tup [plF m t, dint n] ∧ rt = [none]) := by
 refine callsTo_of Tryz.tabOk mixOrd 1 _ Tryz.func67 rfl rfl ?_
 conv => whnf
 repeat' first | (refine borA [] (c_l01From o l hb hl) (fun d rt' hd => ?_)) | ((first | refine z0 ?_ | (refine And.intro (fun h => ?_) (fun h => ?_) <;> (try simp only [cnt1, ints_length] at h)) | refine zS ?_ | refine zV ?_ | (apply zI; refine zP vObt ?_) | (apply zI; refine zP vObx ?_) | refine zA ?_ | refine Alt.fst ?_ | refine Or.inl ?_) <;> conv => whnf) | fail
 obtain ⟨h0, rfl, rfl⟩ := hd
 refine ⟨rfl, by simp, ?_⟩
 conv => whnf
 repeat' first | (refine borA [1] (c_l05Draw hW o l hb hl 0 (by omega) h0) (fun d rt' hd => ?_)) | (refine borA [2] (c_l05Draw hW o l hb hl 0 (by omega) h0) (fun d rt' hd => ?_)) | (refine borA [3] (c_l05Draw hW o l hb hl 0 (by omega) h0) (fun d rt' hd => ?_)) | (refine borA [4] (c_l05Draw hW o l hb hl 0 (by omega) h0) (fun d rt' hd => ?_)) | ((first | refine z0 ?_ | refine Alt.snd (And.intro (show mixOk _ _ = true by decide +kernel) ?_) | refine And.intro (show (_ : List (Option Root))[_]? = _ from rfl) ?_ | (refine And.intro (fun h => ?_) (fun h => ?_) <;> (try simp only [cnt1, ints_length] at h)) | refine zS ?_ | refine zV ?_ | (apply zI; refine zP vObt ?_) | (apply zI; refine zP vObx ?_) | refine zA ?_ | refine Alt.fst ?_ | refine Or.inl ?_) <;> conv => whnf) | fail
 obtain ⟨m, t, a1, h1, hm, ht, ha1, rfl, rfl⟩ := hd
 refine ⟨rfl, by simp, ?_⟩
 conv => whnf
 repeat' first | (refine borA [1, 2] (c_l01Pick o l hb hl a1 ha1 h1 [0, 1, -1, 2, 3, 10, 1000000, 1000001] (by simp)) (fun d rt' hd => ?_)) | (refine borA [1, 3] (c_l01Pick o l hb hl a1 ha1 h1 [0, 1, -1, 2, 3, 10, 1000000, 1000001] (by simp)) (fun d rt' hd => ?_)) | (refine borA [1, 4] (c_l01Pick o l hb hl a1 ha1 h1 [0, 1, -1, 2, 3, 10, 1000000, 1000001] (by simp)) (fun d rt' hd => ?_)) | (refine borA [1, 5] (c_l01Pick o l hb hl a1 ha1 h1 [0, 1, -1, 2, 3, 10, 1000000, 1000001] (by simp)) (fun d rt' hd => ?_)) | (refine borA [1, 6] (c_l01Pick o l hb hl a1 ha1 h1 [0, 1, -1, 2, 3, 10, 1000000, 1000001] (by simp)) (fun d rt' hd => ?_)) | (refine borA [1, 7] (c_l01Pick o l hb hl a1 ha1 h1 [0, 1, -1, 2, 3, 10, 1000000, 1000001] (by simp)) (fun d rt' hd => ?_)) | (refine borA [1, 8] (c_l01Pick o l hb hl a1 ha1 h1 [0, 1, -1, 2, 3, 10, 1000000, 1000001] (by simp)) (fun d rt' hd => ?_)) | (refine borA [1, 9] (c_l01Pick o l hb hl a1 ha1 h1 [0, 1, -1, 2, 3, 10, 1000000, 1000001] (by simp)) (fun d rt' hd => ?_)) | (refine borA [2, 3] (c_l01Pick o l hb hl a1 ha1 h1 [0, 1, -1, 2, 3, 10, 1000000, 1000001] (by simp)) (fun d rt' hd => ?_)) | (refine borA [2, 4] (c_l01Pick o l hb hl a1 ha1 h1 [0, 1, -1, 2, 3, 10, 1000000, 1000001] (by simp)) (fun d rt' hd => ?_)) | (refine borA [2, 5] (c_l01Pick o l hb hl a1 ha1 h1 [0, 1, -1, 2, 3, 10, 1000000, 1000001] (by simp)) (fun d rt' hd => ?_)) | ((first | refine z0 ?_ | refine Alt.snd (And.intro (show mixOk _ _ = true by decide +kernel) ?_) | refine And.intro (show (_ : List (Option Root))[_]? = _ from rfl) ?_ | (refine And.intro (fun h => ?_) (fun h => ?_) <;> (try simp only [cnt1, ints_length] at h)) | refine zS ?_ | refine zV ?_ | (apply zI; refine zP vObt ?_) | (apply zI; refine zP vObx ?_) | refine zA ?_ | refine Alt.fst ?_ | refine Or.inl ?_) <;> conv => whnf) | fail
 obtain ⟨n, a2, h2, hn, ha2, rfl, rfl⟩ := hd
 refine ⟨rfl, by simp, ?_⟩
 conv => whnf
 have hn2 : -1 ≤ n ∧ n ≤ 1000001 := by
   simp only [List.mem_cons, List.not_mem_nil, or_false] at hn
   omega
 repeat' first | ((first | refine z0 ?_ | refine Alt.snd (And.intro (show mixOk _ _ = true by decide +kernel) ?_) | refine And.intro (show (_ : List (Option Root))[_]? = _ from rfl) ?_ | (refine And.intro (fun h => ?_) (fun h => ?_) <;> (try simp only [cnt1, ints_length] at h)) | refine zS ?_ | refine zV ?_ | (apply zI; refine zP vObt ?_) | (apply zI; refine zP vObx ?_) | refine zA ?_ | refine Alt.fst ?_ | refine Or.inl ?_) <;> conv => whnf) | fail
 refine ⟨.tup [plF m t, dint n], [none], ⟨m, t, n, ⟨hm, ht⟩, hn2, rfl, rfl⟩, Weak.of (kp := 1) [none] ?_⟩
 conv => whnf
 repeat' ((first | refine z1 ?_ | refine z2 ?_ | refine zV ?_ | refine And.intro ?_ ?_ | exact trivial) <;> try (conv => whnf))
theorem c_DrawIsLogarithm (hW : Wei) (o : Bool) (l : List Nat) (hb : ∀ b ∈ l, b < 256) (hl : l.length ≤ 4611686018427387904) :
   CallsTo Tryz.prog 64 1 [.list o 1 (byts l)] [none]
     (fun d rt => ∃ (m : Int) (t : List (List Int)) (ma : Int) (la : List Int), ((1 ≤ m ∧ m ≤ 10001) ∧ smT t) ∧ la.length ≤ 12 ∧ d = .tup [plF m t, seF ma la] ∧ rt = [none]) := by
 refine callsTo_of Tryz.tabOk mixOrd 1 _ Tryz.func64 rfl rfl ?_
 conv => whnf
 repeat' first | (refine borA [] (c_l01From o l hb hl) (fun d rt' hd => ?_)) | ((first | refine z0 ?_ | (refine And.intro (fun h => ?_) (fun h => ?_) <;> (try simp only [cnt1, ints_length] at h)) | refine zS ?_ | refine zV ?_ | (apply zI; refine zP vObt ?_) | (apply zI; refine zP vObx ?_) | refine zA ?_ | refine Alt.fst ?_ | refine Or.inl ?_) <;> conv => whnf) | fail
 obtain ⟨h0, rfl, rfl⟩ := hd
 refine ⟨rfl, by simp, ?_⟩
 conv => whnf
 repeat' first | (refine borA [1] (c_l05Draw hW o l hb hl 0 (by omega) h0) (fun d rt' hd => ?_)) | (refine borA [2] (c_l05Draw hW o l hb hl 0 (by omega) h0) (fun d rt' hd => ?_)) | (refine borA [3] (c_l05Draw hW o l hb hl 0 (by omega) h0) (fun d rt' hd => ?_)) | (refine borA [4] (c_l05Draw hW o l hb hl 0 (by omega) h0) (fun d rt' hd => ?_)) | (refine borA [5] (c_l05Draw hW o l hb hl 0 (by omega) h0) (fun d rt' hd => ?_)) | (refine borA [6] (c_l05Draw hW o l hb hl 0 (by omega) h0) (fun d rt' hd => ?_)) | ((first | refine z0 ?_ | refine Alt.snd (And.intro (show mixOk _ _ = true by decide +kernel) ?_) | refine And.intro (show (_ : List (Option Root))[_]? = _ from rfl) ?_ | (refine And.intro (fun h => ?_) (fun h => ?_) <;> (try simp only [cnt1, ints_length] at h)) | refine zS ?_ | refine zV ?_ | (apply zI; refine zP vObt ?_) | (apply zI; refine zP vObx ?_) | refine zA ?_ | refine Alt.fst ?_ | refine Or.inl ?_) <;> conv => whnf) | fail
 obtain ⟨m, t, a1, h1, hm, ht, ha1, rfl, rfl⟩ := hd
 refine ⟨rfl, by simp, ?_⟩
 conv => whnf
 have ht2 := smT_lens ht
 have hlo := fun o p => c_specLogarithmOf o p m t ht2.1 ht2.2
 by_cases hc : loC m t = 0
 · rw [serRes, if_pos hc] at hlo
   simp only [SerD] at hlo
   obtain ⟨⟨hmd, hn⟩, eT, _⟩ := lawB_Tb (loC_0 hc).1
   obtain ⟨LG, hLG⟩ : ∃ LG, LG = L t.length (lgF (rd2 m t)) := ⟨_, rfl⟩
   have hLl : LG.length = t.length := by rw [hLG]; simp
   rw [← hLG] at hlo
   have hm1 := hmd.1
   have hm2 := hmd.2
   repeat' first | (refine borA [1] (c_l01Next o l hb hl a1 ha1 h1 4) (fun d rt' hd => ?_)) | (refine borA [2] (c_l01Next o l hb hl a1 ha1 h1 4) (fun d rt' hd => ?_)) | (refine borA [3] (c_l01Next o l hb hl a1 ha1 h1 4) (fun d rt' hd => ?_)) | (refine borA [4] (c_l01Next o l hb hl a1 ha1 h1 4) (fun d rt' hd => ?_)) | (refine borA [5] (c_l01Next o l hb hl a1 ha1 h1 4) (fun d rt' hd => ?_)) | (refine borA [6] (c_l01Next o l hb hl a1 ha1 h1 4) (fun d rt' hd => ?_)) | ((first | refine z0 ?_ | refine Alt.snd (And.intro (show mixOk _ _ = true by decide +kernel) ?_) | refine And.intro (show (_ : List (Option Root))[_]? = _ from rfl) ?_ | (apply zI; refine zP (hlo _ _) ?_) | (refine And.intro (fun h => ?_) (fun h => ?_) <;> (try simp only [cnt1, ints_length, rows_length, Tb_length, L_length, byts_length] at h) <;> first | (exfalso; first | omega | exact h trivial | (cases h; done)) | skip) | refine zS ?_ | refine zV ?_ | (apply zI; refine zP vObt ?_) | (apply zI; refine zP vObx ?_) | refine zA ?_ | refine Alt.fst ?_ | refine Or.inl ?_) <;> conv => whnf) | fail
   obtain ⟨x, a2, h2, hx, ha2, rfl, rfl⟩ := hd
   refine ⟨rfl, by simp, ?_⟩
   conv => whnf
   have hx2 := hx.2 (by omega)
   by_cases hx0 : 0 < x
   · repeat' first | (refine borA [1] (c_l01Next o l hb hl a2 ha2 h2 4) (fun d rt' hd => ?_)) | (refine borA [2] (c_l01Next o l hb hl a2 ha2 h2 4) (fun d rt' hd => ?_)) | (refine borA [3] (c_l01Next o l hb hl a2 ha2 h2 4) (fun d rt' hd => ?_)) | (refine borA [4] (c_l01Next o l hb hl a2 ha2 h2 4) (fun d rt' hd => ?_)) | (refine borA [5] (c_l01Next o l hb hl a2 ha2 h2 4) (fun d rt' hd => ?_)) | (refine borA [6] (c_l01Next o l hb hl a2 ha2 h2 4) (fun d rt' hd => ?_)) | ((first | refine z0 ?_ | refine Alt.snd (And.intro (show mixOk _ _ = true by decide +kernel) ?_) | refine And.intro (show (_ : List (Option Root))[_]? = _ from rfl) ?_ | (refine And.intro (fun h => ?_) (fun h => ?_) <;> (try simp only [cnt1, ints_length, rows_length, Tb_length, L_length, byts_length] at h) <;> first | (exfalso; first | omega | exact h trivial | (cases h; done)) | skip) | refine zS ?_ | refine zV ?_ | (apply zI; refine zP vObt ?_) | (apply zI; refine zP vObx ?_) | refine zA ?_ | refine Alt.fst ?_ | refine Or.inl ?_) <;> conv => whnf) | fail
     obtain ⟨y, a3, h3, hy, ha3, rfl, rfl⟩ := hd
     refine ⟨rfl, by simp, ?_⟩
     conv => whnf
     have hy2 := hy.2 (by omega)
     have ec : ((cnt 1 (ints LG) : Nat) : Int) = t.length := by simp [cnt1, hLl]
     repeat' first | (refine borA [1] (c_l01Next o l hb hl a3 ha3 h3 ((cnt 1 (ints LG) : Nat) : Int)) (fun d rt' hd => ?_)) | (refine borA [2] (c_l01Next o l hb hl a3 ha3 h3 ((cnt 1 (ints LG) : Nat) : Int)) (fun d rt' hd => ?_)) | (refine borA [3] (c_l01Next o l hb hl a3 ha3 h3 ((cnt 1 (ints LG) : Nat) : Int)) (fun d rt' hd => ?_)) | (refine borA [4] (c_l01Next o l hb hl a3 ha3 h3 ((cnt 1 (ints LG) : Nat) : Int)) (fun d rt' hd => ?_)) | (refine borA [5] (c_l01Next o l hb hl a3 ha3 h3 ((cnt 1 (ints LG) : Nat) : Int)) (fun d rt' hd => ?_)) | (refine borA [6] (c_l01Next o l hb hl a3 ha3 h3 ((cnt 1 (ints LG) : Nat) : Int)) (fun d rt' hd => ?_)) | ((first | refine z0 ?_ | refine Alt.snd (And.intro (show mixOk _ _ = true by decide +kernel) ?_) | refine And.intro (show (_ : List (Option Root))[_]? = _ from rfl) ?_ | (refine And.intro (fun h => ?_) (fun h => ?_) <;> (try simp only [cnt1, ints_length, rows_length, Tb_length, L_length, byts_length] at h) <;> first | (exfalso; first | omega | exact h trivial | (cases h; done)) | skip) | refine zS ?_ | refine zV ?_ | (apply zI; refine zP vObt ?_) | (apply zI; refine zP vObx ?_) | refine zA ?_ | refine Alt.fst ?_ | refine Or.inl ?_) <;> conv => whnf) | fail
     · obtain ⟨i, a4, h4, hi, ha4, rfl, rfl⟩ := hd
       refine ⟨rfl, by simp, ?_⟩
       conv => whnf
       rw [ec] at hi
       have hi2 := hi.2 (by omega)
       repeat' first | (refine borA [1] (c_l01Next o l hb hl a4 ha4 h4 m) (fun d rt' hd => ?_)) | (refine borA [2] (c_l01Next o l hb hl a4 ha4 h4 m) (fun d rt' hd => ?_)) | (refine borA [3] (c_l01Next o l hb hl a4 ha4 h4 m) (fun d rt' hd => ?_)) | (refine borA [4] (c_l01Next o l hb hl a4 ha4 h4 m) (fun d rt' hd => ?_)) | (refine borA [5] (c_l01Next o l hb hl a4 ha4 h4 m) (fun d rt' hd => ?_)) | (refine borA [6] (c_l01Next o l hb hl a4 ha4 h4 m) (fun d rt' hd => ?_)) | ((first | refine z0 ?_ | refine Alt.snd (And.intro (show mixOk _ _ = true by decide +kernel) ?_) | refine And.intro (show (_ : List (Option Root))[_]? = _ from rfl) ?_ | (refine And.intro (fun h => ?_) (fun h => ?_) <;> (try simp only [cnt1, ints_length, rows_length, Tb_length, L_length, byts_length] at h) <;> first | (exfalso; first | omega | exact h trivial | (cases h; done)) | skip) | refine zS ?_ | refine zV ?_ | (apply zI; refine zP vObt ?_) | (apply zI; refine zP vObx ?_) | refine zA ?_ | refine Alt.fst ?_ | refine Or.inl ?_) <;> conv => whnf) | fail
       obtain ⟨z, a5, h5, hz, ha5, rfl, rfl⟩ := hd
       refine ⟨rfl, by simp, ?_⟩
       conv => whnf
       repeat' first | ((first | refine z0 ?_ | refine Alt.snd (And.intro (show mixOk _ _ = true by decide +kernel) ?_) | refine And.intro (show (_ : List (Option Root))[_]? = _ from rfl) ?_ | (refine And.intro (fun h => ?_) (fun h => ?_) <;> (try simp only [cnt1, ints_length, rows_length, Tb_length, L_length, byts_length] at h) <;> first | (exfalso; first | omega | exact h trivial | (cases h; done)) | skip) | refine zS ?_ | refine zV ?_ | (apply zI; refine zP vObt ?_) | (apply zI; refine zP vObx ?_) | refine zA ?_ | refine And.intro (ints_plain _) ?_ | refine Alt.fst ?_ | refine Or.inl ?_) <;> conv => whnf) | fail
       first
         | (refine ⟨.tup [plF m t, seF m (LG.set i.toNat z)], [none], ⟨m, t, m, LG.set i.toNat z, ⟨hm, ht⟩, (by simp only [List.length_set]; omega), rfl, rfl⟩, Weak.trans (Weak.freezeR (kp := 1) (r := 6) (s0 := 1) (env' := [.tup [plF m t, seF m (LG.set i.toNat z)]]) rfl rfl (fz_one (fz_tup2 (.rfl _) (fz_se (by simp [cnt1]) (by rw [List.drop_zero, List.take_of_length_le (by simp [cnt1])]))))) (wkA (kp := 1) [none])⟩)
     · first
         | (refine ⟨.tup [plF m t, seF m LG], [none], ⟨m, t, m, LG, ⟨hm, ht⟩, by omega, rfl, rfl⟩, Weak.trans (Weak.freezeR (kp := 1) (r := 6) (s0 := 1) (env' := [.tup [plF m t, seF m LG]]) rfl rfl (fz_one (fz_tup2 (.rfl _) (fz_se (by simp [cnt1]) (by rw [List.drop_zero, List.take_of_length_le (by simp [cnt1])]))))) (wkA (kp := 1) [none])⟩)
   · repeat' first | (refine borA [] (c_l04Curves1 hW o l hb hl) (fun d rt' hd => ?_)) | ((first | refine z0 ?_ | refine Alt.snd (And.intro (show mixOk _ _ = true by decide +kernel) ?_) | refine And.intro (show (_ : List (Option Root))[_]? = _ from rfl) ?_ | (refine And.intro (fun h => ?_) (fun h => ?_) <;> (try simp only [cnt1, ints_length, rows_length, Tb_length, L_length, byts_length] at h) <;> first | (exfalso; first | omega | exact h trivial | (cases h; done)) | skip) | refine zS ?_ | refine zV ?_ | (apply zI; refine zP vObt ?_) | (apply zI; refine zP vObx ?_) | refine zA ?_ | refine Alt.fst ?_ | refine Or.inl ?_) <;> conv => whnf) | fail
     obtain ⟨m2, t2, ma, la, hm2, hla, rfl, rfl⟩ := hd
     refine ⟨rfl, by simp, ?_⟩
     conv => whnf
     have hcn : (0 : Int) ≤ 0 ∧ (0 : Int) < ((cnt 2 [dint ma, D.list false 1 (ints la)] : Nat) : Int) := ⟨by omega, by simp [cnt]⟩
     repeat' first | ((first | refine z0 ?_ | refine Alt.snd (And.intro (show mixOk _ _ = true by decide +kernel) ?_) | refine And.intro (show (_ : List (Option Root))[_]? = _ from rfl) ?_ | (apply zI; refine zP (⟨_, rfl, rfl⟩) ?_) | (refine And.intro (fun h => ?_) (fun h => ?_) <;> (try simp only [cnt1, ints_length] at h)) | refine zS ?_ | refine zV ?_ | (apply zI; refine zP vObt ?_) | (apply zI; refine zP vObx ?_) | refine zA ?_ | refine And.intro (hcn) ?_ | refine Alt.fst ?_ | refine Or.inl ?_) <;> conv => whnf) | fail
     refine ⟨.tup [plF m2 t2, seF ma la], [none], ⟨m2, t2, ma, la, hm2, hla, rfl, rfl⟩, Weak.of (kp := 1) [none] ?_⟩
     conv => whnf
     repeat' ((first | refine z1 ?_ | refine z2 ?_ | refine zV ?_ | refine And.intro ?_ ?_ | exact trivial) <;> try (conv => whnf))
 · have hcr : loC m t = 1 ∨ loC m t = 5 := by
     unfold loC at hc ⊢
     split at hc <;> rename_i hq
     · rw [if_pos hq]
       split at hc <;> rename_i hq2
       · exact absurd rfl hc
       · rw [if_neg hq2]; exact .inr rfl
     · rw [if_neg hq]; exact .inl rfl
   rw [serRes, if_neg hc] at hlo
   repeat' first | (refine borA [] (c_l04Curves1 hW o l hb hl) (fun d rt' hd => ?_)) | ((first | refine z0 ?_ | refine Alt.snd (And.intro (show mixOk _ _ = true by decide +kernel) ?_) | refine And.intro (show (_ : List (Option Root))[_]? = _ from rfl) ?_ | (apply zI; refine zP (hlo _ _) ?_) | (refine And.intro (fun h => ?_) (fun h => ?_) <;> (try simp only [cnt1, ints_length, rows_length, Tb_length, L_length, byts_length] at h) <;> first | (exfalso; first | omega | exact h trivial | (cases h; done)) | skip) | refine zS ?_ | refine zV ?_ | (apply zI; refine zP vObt ?_) | (apply zI; refine zP vObx ?_) | refine zA ?_ | refine Alt.fst ?_ | refine Or.inl ?_) <;> conv => whnf) | fail
   obtain ⟨m2, t2, ma, la, hm2, hla, rfl, rfl⟩ := hd
   refine ⟨rfl, by simp, ?_⟩
   conv => whnf
   have hcn : (0 : Int) ≤ 0 ∧ (0 : Int) < ((cnt 2 [dint ma, D.list false 1 (ints la)] : Nat) : Int) := ⟨by omega, by simp [cnt]⟩
   repeat' first | ((first | refine z0 ?_ | refine Alt.snd (And.intro (show mixOk _ _ = true by decide +kernel) ?_) | refine And.intro (show (_ : List (Option Root))[_]? = _ from rfl) ?_ | (apply zI; refine zP (⟨_, rfl, rfl⟩) ?_) | (refine And.intro (fun h => ?_) (fun h => ?_) <;> (try simp only [cnt1, ints_length] at h)) | refine zS ?_ | refine zV ?_ | (apply zI; refine zP vObt ?_) | (apply zI; refine zP vObx ?_) | refine zA ?_ | refine And.intro (hcn) ?_ | refine Alt.fst ?_ | refine Or.inl ?_) <;> conv => whnf) | fail
   refine ⟨.tup [plF m2 t2, seF ma la], [none], ⟨m2, t2, ma, la, hm2, hla, rfl, rfl⟩, Weak.of (kp := 1) [none] ?_⟩
   conv => whnf
   repeat' ((first | refine z1 ?_ | refine z2 ?_ | refine zV ?_ | refine And.intro ?_ ?_ | exact trivial) <;> try (conv => whnf))
end Go.Proofs
