/- Parts of the proof. -/
import Derived.Test.YtghcpginhamelaaGreatTab
import Derived.Test.YtghcpginhamelaaGreatVm28
import Derived.Test.YtghcpginhamelaaGreatVm32
namespace Go.Proofs
open Go Go.Vm Go.Fg
theorem aE : Tryz.prog.follows .mixedOrders = true := by kernel_rfl
def cD (n lo hi : Int) : Bool := decide (lo ≤ n ∧ n ≤ hi)
set_option maxRecDepth 100000
set_option linter.unusedSimpArgs false
set_option linter.unusedVariables false
theorem yM (n lo hi : Int) : aL Tryz.prog 125 [aA n, aA lo, aA hi] (bD (cD n lo hi)) := by
 refine cF Tryz.tabOk aE Tryz.func125 rfl rfl ?_
 conv => whnf
 repeat' first | ((first | refine z0 ?_ | (refine zP (fun h => ?_) (fun h => ?_) <;> (try simp only [aB, aD] at h)) | refine zS ?_ | refine zV ?_ | (apply zI; refine zP aH ?_) | refine Or.inl ?_) <;> conv => whnf) | fail
 all_goals (refine bO ?_; first | rfl | (simp_all [cD]; done) | (simp_all [cD]; omega) | (simp_all [cD]; intros; omega))
theorem Ag6 (n lo hi : Int) : aL Tryz.prog 144 [aA n, aA lo, aA hi] (bD (cD n lo hi)) := by
 refine cF Tryz.tabOk aE Tryz.func144 rfl rfl ?_
 conv => whnf
 repeat' first | ((first | refine z0 ?_ | (refine zP (fun h => ?_) (fun h => ?_) <;> (try simp only [aB, aD] at h)) | refine zS ?_ | refine zV ?_ | (apply zI; refine zP aH ?_) | refine Or.inl ?_) <;> conv => whnf) | fail
 all_goals (refine bO ?_; first | rfl | (simp_all [cD]; done) | (simp_all [cD]; omega) | (simp_all [cD]; intros; omega))
theorem Ad1 (m : Int) : aL Tryz.prog 210 [aA m] (bD (cD m 2 10000)) := by
 refine cF Tryz.tabOk aE Tryz.func210 rfl rfl ?_
 conv => whnf
 repeat' first | ((first | refine z0 ?_ | (apply zI; refine zP (yM _ _ _) ?_) | (refine zP (fun h => ?_) (fun h => ?_) <;> (try simp only [aB, aD] at h)) | refine zV ?_ | refine Or.inl ?_) <;> conv => whnf) | fail
 all_goals (refine bO ?_; first | rfl | (simp_all []; done) | (simp_all []; omega) | (simp_all []; intros; omega))
theorem Aih (m : Int) : aL Tryz.prog 253 [aA m] (bD (cD m 2 10000)) := by
 refine cF Tryz.tabOk aE Tryz.func253 rfl rfl ?_
 conv => whnf
 repeat' first | ((first | refine z0 ?_ | (apply zI; refine zP (Ag6 _ _ _) ?_) | (refine zP (fun h => ?_) (fun h => ?_) <;> (try simp only [aB, aD] at h)) | refine zV ?_ | (apply zI; refine zP aH ?_) | refine Or.inl ?_) <;> conv => whnf) | fail
 all_goals (refine bO ?_; first | rfl | (simp_all []; done) | (simp_all []; omega) | (simp_all []; intros; omega))
theorem G9 (a m : Int) (h1 : eO .i64 (m - 1)) : aL Tryz.prog 188 [aA a, aA m] (bD (cD a 0 (m - 1))) := by
 refine cF Tryz.tabOk aE Tryz.func188 rfl rfl ?_
 conv => whnf
 repeat' first | ((first | refine z0 ?_ | (apply zI; refine zP (yM _ _ _) ?_) | (refine zP (fun h => ?_) (fun h => ?_) <;> (try simp only [aB, aD] at h)) | refine zV ?_ | refine Or.inl ?_) <;> conv => whnf) | fail
 all_goals (refine bO ?_; first | rfl | (simp_all []; done) | (simp_all []; omega) | (simp_all []; intros; omega))
def fQ (m : Int) (l : List Int) : Bool := l.all fun x => cD x 0 (m - 1)
theorem T9 {m : Int} {l : List Int} (h : ∀ j, j < l.length → cD (l.getD j 0) 0 (m - 1) = true) : fQ m l = true := by
 refine List.all_eq_true.2 (fun x hx => ?_)
 obtain ⟨i, hi, rfl⟩ := List.getElem_of_mem hx
 have := h i hi
 simpa [hi] using this
theorem Apl {m : Int} {l : List Int} {i : Nat} (hi : i < l.length) (h : cD (l.getD i 0) 0 (m - 1) = false) : fQ m l = false := by
 refine List.all_eq_false.2 ⟨l[i], List.getElem_mem hi, ?_⟩
 simp [hi] at h
 simp [h]
theorem wZ {m : Int} {l : List Int} : fQ m l = true ↔ Nums m l := by
 simp only [fQ, List.all_eq_true, cD, decide_eq_true_eq, Nums]
 exact ⟨fun h x hx => by have := h x hx; omega, fun h x hx => by have := h x hx; omega⟩
theorem yG {m : Int} (h : cD m 2 10000 = true) : eO .i64 (m - 1) := by
 simp only [cD, decide_eq_true_eq] at h
 exact iT (by omega) (by omega)
theorem kP {i : Nat} {p : Nat → Prop} (h : ∀ j, j < i → p j) (h2 : p i) : ∀ j, j < i + 1 → p j := fun j hj => by
 rcases Nat.lt_or_ge j i with h' | h'
 · exact h j h'
 · rw [show j = i by omega]; exact h2
theorem Ari (o : Bool) (m : Int) (l : List Int) (h1 : eO .i64 (m - 1)) (hl : l.length ≤ 4611686018427387904) : aL Tryz.prog 254 [aA m, .list o 1 (ints l)] (bD (fQ m l)) := by
 refine cF Tryz.tabOk aE Tryz.func254 rfl rfl ?_
 conv => whnf
 refine dZ Tryz.tabOk aE (α := Nat) (fun i => [(5, aA i)]) (fun i => []) (fun i => i ≤ l.length ∧ ∀ j, j < i → cD (l.getD j 0) 0 (m - 1) = true) (fun i => l.length - i) (0) ?_ ?_ ?_
 · exact ⟨by omega, by omega⟩
 · conv => whnf
   first | refine aG.auto ?_ | refine aC.auto ?_
   conv => whnf
   repeat' ((first | refine z1 ?_ | refine z2 ?_ | exact trivial) <;> try (conv => whnf))
 intro i hi
 conv => whnf
 repeat' first | ((first | refine z0 ?_ | (apply zI; refine zP (Ag6 _ _ _) ?_) | (refine zP (fun h => ?_) (fun h => ?_) <;> (try simp only [aB, aD] at h)) | refine zV ?_ | (apply zI; refine zP aH ?_) | refine Or.inl ?_) <;> conv => whnf) | fail
 · refine Exists.intro (i + 1) (zP ⟨by omega, kP hi.2 (by assumption)⟩ (zP (by omega) ?_))
   first | refine aG.auto ?_ | refine aC.auto ?_
   conv => whnf
   repeat' ((first | refine z1 ?_ | refine z2 ?_ | exact trivial) <;> try (conv => whnf))
 · exact bO (Apl (i := i) (by omega) (by assumption)).symm
 · exact bO (T9 (fun j hj => hi.2 j (by omega))).symm
theorem getD_set_ne {l : List Int} {i j : Nat} {x : Int} (h : i ≠ j) : (l.set i x).getD j 0 = l.getD j 0 := by simp [List.getElem?_set_ne h]
def Afn (n m : Int) : Int := (n.tmod m + m).tmod m
theorem Afr {n m : Int} (h : 0 < m) : Afn n m = n % m := by
 unfold Afn
 have h1 := Int.lt_tmod_of_pos n h
 rw [Int.tmod_eq_emod_of_nonneg (by omega), Int.add_emod_right, Int.tmod_eq_emod]
 split
 · simp
 · rw [Int.sub_emod, Int.emod_eq_zero_of_dvd (Int.dvd_natAbs.2 (Int.dvd_refl m))]; simp
theorem oV (n m : Int) (h : 0 < m) (h1 : m ≤ 4611686018427387904) : aL Tryz.prog 107 [aA n, aA m] (aA (n % m)) := by
 rw [← Afr h]
 have h1 := Int.lt_tmod_of_pos n h
 have h2 := Int.tmod_lt_of_pos n h
 refine cF Tryz.tabOk aE Tryz.func107 rfl rfl ?_
 conv => whnf
 repeat' first | ((first | refine z0 ?_ | (refine zP (fun h => ?_) (fun h => ?_) <;> (try simp only [aB, aD] at h)) | refine zS ?_ | refine zV ?_ | (apply zI; refine zP aH ?_) | refine Or.inl ?_) <;> conv => whnf) | fail
 rfl
theorem nI (n m : Int) (h : 0 < m) (h1 : m ≤ 4611686018427387904) : aL Tryz.prog 327 [aA m, aA n] (aA (n % m)) := by
 rw [← Afr h]
 have h1 := Int.lt_tmod_of_pos n h
 have h2 := Int.tmod_lt_of_pos n h
 refine cF Tryz.tabOk aE Tryz.func327 rfl rfl ?_
 conv => whnf
 repeat' first | ((first | refine z0 ?_ | (refine zP (fun h => ?_) (fun h => ?_) <;> (try simp only [aB, aD] at h)) | refine zS ?_ | refine zV ?_ | (apply zI; refine zP aH ?_) | refine Or.inl ?_) <;> conv => whnf) | fail
 rfl
theorem Arm (g : Nat) (ds : List D) (p : Int → Bool) (hp : ∀ x, aL Tryz.prog g [aA x, .cptr ds 0] (bD (p x))) (o : Bool) (l : List Int) (hl : l.length ≤ 1048576) :
   aL Tryz.prog 330 [.list o 1 (ints l), (.fn (.func g) [] [.cptr ds 0])] (aA (match l.findIdx? p with | some i => i | none => -1)) := by
 refine cF Tryz.tabOk aE Tryz.func330 rfl rfl ?_
 conv => whnf
 repeat' first | ((first | refine z0 ?_ | (refine zP (fun h => ?_) (fun h => ?_) <;> (try simp only [aB, aD] at h)) | refine zS ?_ | refine zV ?_ | (apply zI; refine zP aH ?_) | refine Or.inl ?_) <;> conv => whnf) | fail
 refine dZ Tryz.tabOk aE (α := Nat) (fun i => [(7, aA l.length), (8, aA i)]) (fun i => []) (fun i => i ≤ l.length ∧ ∀ j, j < i → p (l.getD j 0) = false) (fun i => l.length - i) (0) ?_ ?_ ?_
 · exact ⟨by omega, by omega⟩
 · conv => whnf
   first | refine aG.auto ?_ | refine aC.auto ?_
   conv => whnf
   repeat' ((first | refine z1 ?_ | refine z2 ?_ | exact trivial) <;> try (conv => whnf))
 intro i hi
 conv => whnf
 repeat' first | ((first | refine z0 ?_ | (apply zI; refine zP (hp _) ?_) | (refine zP (fun h => ?_) (fun h => ?_) <;> (try simp only [aB, aD] at h)) | refine zV ?_ | (apply zI; refine zP aH ?_) | refine Or.inl ?_) <;> conv => whnf) | fail
 · refine congrArg aA ?_
   have : l.findIdx? p = some i := List.findIdx?_eq_some_iff_getElem.2 ⟨by omega, by simpa [show i < l.length by omega] using h, fun j hj => by have := hi.2 j hj; simpa [show j < l.length by omega] using this⟩
   rw [this]
 · refine Exists.intro (i + 1) (zP ⟨by omega, kP hi.2 (by assumption)⟩ (zP (by omega) ?_))
   first | refine aG.auto ?_ | refine aC.auto ?_
   conv => whnf
   repeat' ((first | refine z1 ?_ | refine z2 ?_ | exact trivial) <;> try (conv => whnf))
 · refine congrArg aA ?_
   have : l.findIdx? p = none := List.findIdx?_eq_none_iff.2 (fun x hx => by
     obtain ⟨j, hj, rfl⟩ := List.getElem_of_mem hx
     have := hi.2 j (by omega)
     simpa [hj] using this)
   rw [this]
theorem Aa7 (g : Nat) (ds : List D) (p : Int → Bool) (hp : ∀ x, aL Tryz.prog g [aA x, .cptr ds 0] (bD (p x))) (o : Bool) (l : List Int) (hl : l.length ≤ 1048576) :
   aL Tryz.prog 289 [.list o 1 (ints l), (.fn (.func g) [] [.cptr ds 0])] (bD (l.any p)) := by
 refine cF Tryz.tabOk aE Tryz.func289 rfl rfl ?_
 conv => whnf
 repeat' first | ((first | refine z0 ?_ | (apply zI; refine zP (Arm g ds p hp o l hl) ?_) | (refine zP (fun h => ?_) (fun h => ?_) <;> (try simp only [aB, aD] at h)) | refine Or.inl ?_) <;> conv => whnf) | fail
 all_goals
   refine bO ?_
   cases e : l.findIdx? p with
   | none =>
     simp only [e] at h
     have := List.findIdx?_eq_none_iff.1 e
     simp_all
   | some i =>
     simp only [e] at h
     obtain ⟨hi, hp, _⟩ := List.findIdx?_eq_some_iff_getElem.1 e
     have : l.any p = true := List.any_eq_true.2 ⟨_, List.getElem_mem hi, hp⟩
     first | (rw [this]; done) | omega
theorem Ao0 (g : Nat)  (p : Int → Bool) (hp : ∀ x, aL Tryz.prog g [aA x] (bD (p x))) (o : Bool) (l : List Int) (hl : l.length ≤ 1048576) :
   aL Tryz.prog 330 [.list o 1 (ints l), (.fn (.func g) [] [])] (aA (match l.findIdx? p with | some i => i | none => -1)) := by
 refine cF Tryz.tabOk aE Tryz.func330 rfl rfl ?_
 conv => whnf
 repeat' first | ((first | refine z0 ?_ | (refine zP (fun h => ?_) (fun h => ?_) <;> (try simp only [aB, aD] at h)) | refine zS ?_ | refine zV ?_ | (apply zI; refine zP aH ?_) | refine Or.inl ?_) <;> conv => whnf) | fail
 refine dZ Tryz.tabOk aE (α := Nat) (fun i => [(7, aA l.length), (8, aA i)]) (fun i => []) (fun i => i ≤ l.length ∧ ∀ j, j < i → p (l.getD j 0) = false) (fun i => l.length - i) (0) ?_ ?_ ?_
 · exact ⟨by omega, by omega⟩
 · conv => whnf
   first | refine aG.auto ?_ | refine aC.auto ?_
   conv => whnf
   repeat' ((first | refine z1 ?_ | refine z2 ?_ | exact trivial) <;> try (conv => whnf))
 intro i hi
 conv => whnf
 repeat' first | ((first | refine z0 ?_ | (apply zI; refine zP (hp _) ?_) | (refine zP (fun h => ?_) (fun h => ?_) <;> (try simp only [aB, aD] at h)) | refine zV ?_ | (apply zI; refine zP aH ?_) | refine Or.inl ?_) <;> conv => whnf) | fail
 · refine congrArg aA ?_
   have : l.findIdx? p = some i := List.findIdx?_eq_some_iff_getElem.2 ⟨by omega, by simpa [show i < l.length by omega] using h, fun j hj => by have := hi.2 j hj; simpa [show j < l.length by omega] using this⟩
   rw [this]
 · refine Exists.intro (i + 1) (zP ⟨by omega, kP hi.2 (by assumption)⟩ (zP (by omega) ?_))
   first | refine aG.auto ?_ | refine aC.auto ?_
   conv => whnf
   repeat' ((first | refine z1 ?_ | refine z2 ?_ | exact trivial) <;> try (conv => whnf))
 · refine congrArg aA ?_
   have : l.findIdx? p = none := List.findIdx?_eq_none_iff.2 (fun x hx => by
     obtain ⟨j, hj, rfl⟩ := List.getElem_of_mem hx
     have := hi.2 j (by omega)
     simpa [hj] using this)
   rw [this]
theorem Akb (g : Nat) (ds : List D) (p : Int → Bool) (hp : ∀ x, aL Tryz.prog g [aA x, .cptr ds 0] (bD (p x))) (x : Int) :
   aL Tryz.prog 290 [aA x, .cptr [(.fn (.func g) [] [.cptr ds 0])] 0] (bD (!p x)) := by
 refine cF Tryz.tabOk aE Tryz.func290 rfl rfl ?_
 conv => whnf
 repeat' first | ((first | refine z0 ?_ | (apply zI; refine zP (hp x) ?_) | (refine zP (fun h => ?_) (fun h => ?_) <;> (try simp only [aB, aD] at h)) | (apply zI; refine zP aH ?_) | refine Or.inl ?_) <;> conv => whnf) | fail
 all_goals (refine bO ?_; first | rfl | (simp_all []; done) | (simp_all []; omega) | (simp_all []; intros; omega))
theorem L3 (g : Nat) (ds : List D) (p : Int → Bool) (hp : ∀ x, aL Tryz.prog g [aA x, .cptr ds 0] (bD (p x))) (o : Bool) (l : List Int) (hl : l.length ≤ 1048576) :
   aL Tryz.prog 198 [.list o 1 (ints l), (.fn (.func g) [] [.cptr ds 0])] (bD (l.all p)) := by
 refine cF Tryz.tabOk aE Tryz.func198 rfl rfl ?_
 conv => whnf
 repeat' first | ((first | refine z0 ?_ | (apply zI; refine zP (Aa7 290 [(.fn (.func g) [] [.cptr ds 0])] (fun x => !p x) (fun x => Akb g ds p hp x) o l hl) ?_) | (refine zP (fun h => ?_) (fun h => ?_) <;> (try simp only [aB, aD] at h)) | refine zV ?_ | refine Or.inl ?_) <;> conv => whnf) | fail
 all_goals
   refine bO ?_
   rw [List.all_eq_not_any_not]
   simp_all
theorem Ahf (g : Nat)  (p : Int → Bool) (hp : ∀ x, aL Tryz.prog g [aA x] (bD (p x))) (x : Int) :
   aL Tryz.prog 290 [aA x, .cptr [(.fn (.func g) [] [])] 0] (bD (!p x)) := by
 refine cF Tryz.tabOk aE Tryz.func290 rfl rfl ?_
 conv => whnf
 repeat' first | ((first | refine z0 ?_ | (apply zI; refine zP (hp x) ?_) | (refine zP (fun h => ?_) (fun h => ?_) <;> (try simp only [aB, aD] at h)) | (apply zI; refine zP aH ?_) | refine Or.inl ?_) <;> conv => whnf) | fail
 all_goals (refine bO ?_; first | rfl | (simp_all []; done) | (simp_all []; omega) | (simp_all []; intros; omega))
theorem Ajf (g : Nat)  (p : Int → Bool) (hp : ∀ x, aL Tryz.prog g [aA x] (bD (p x))) (o : Bool) (l : List Int) (hl : l.length ≤ 1048576) :
   aL Tryz.prog 198 [.list o 1 (ints l), (.fn (.func g) [] [])] (bD (l.all p)) := by
 refine cF Tryz.tabOk aE Tryz.func198 rfl rfl ?_
 conv => whnf
 repeat' first | ((first | refine z0 ?_ | (apply zI; refine zP (Aa7 290 [(.fn (.func g) [] [])] (fun x => !p x) (fun x => Ahf g  p hp x) o l hl) ?_) | (refine zP (fun h => ?_) (fun h => ?_) <;> (try simp only [aB, aD] at h)) | refine zV ?_ | refine Or.inl ?_) <;> conv => whnf) | fail
 all_goals
   refine bO ?_
   rw [List.all_eq_not_any_not]
   simp_all
def C3 (m : Int) (l : List Int) : Bool := cD m 2 10000 && cD l.length 2 11 && fQ m l
theorem Ag8 (o : Bool) (m : Int) (l : List Int) (hl : l.length ≤ 1048576) : aL Tryz.prog 181 [.agg [aA m, .list o 1 (ints l)]] (aA (l.length - 1)) := by
 refine cF Tryz.tabOk aE Tryz.func181 rfl rfl ?_
 conv => whnf
 repeat' first | ((first | refine z0 ?_ | (refine zP (fun h => ?_) (fun h => ?_) <;> (try simp only [aB, aD] at h)) | refine zS ?_ | refine zV ?_ | (apply zI; refine zP aH ?_) | refine Or.inl ?_) <;> conv => whnf) | fail
 simp [aB]
theorem Ar0 (a m : Int) (d : D) (h1 : eO .i64 (m - 1)) : aL Tryz.prog 249 [aA a, .cptr [aA m, d] 0] (bD (cD a 0 (m - 1))) := by
 refine cF Tryz.tabOk aE Tryz.func249 rfl rfl ?_
 conv => whnf
 repeat' first | ((first | refine z0 ?_ | (apply zI; refine zP (G9 _ _ h1) ?_) | (refine zP (fun h => ?_) (fun h => ?_) <;> (try simp only [aB, aD] at h)) | (apply zI; refine zP aH ?_) | refine Or.inl ?_) <;> conv => whnf) | fail
 all_goals (refine bO ?_; first | rfl | (simp_all []; done) | (simp_all []; omega) | (simp_all []; intros; omega))
theorem Aql (o : Bool) (m : Int) (l : List Int) (hl : l.length ≤ 1048576) : aL Tryz.prog 153 [.agg [aA m, .list o 1 (ints l)]] (bD (C3 m l)) := by
 refine cF Tryz.tabOk aE Tryz.func153 rfl rfl ?_
 conv => whnf
 repeat' first | ((first | refine z0 ?_ | (apply zI; refine zP (Ad1 _) ?_) | (apply zI; refine zP (yM _ _ _) ?_) | (apply zI; refine zP (Ag8 _ _ _ hl) ?_) | (apply zI; refine zP (L3 249 [aA m, .list o 1 (ints l)] (fun a => cD a 0 (m - 1)) (fun a => Ar0 a m _ (yG (by assumption))) _ l hl) ?_) | (refine zP (fun h => ?_) (fun h => ?_) <;> (try simp only [aB, aD] at h)) | refine zV ?_ | refine Or.inl ?_) <;> conv => whnf) | fail
 all_goals (refine bO ?_; simp_all [C3, fQ, cD])
 all_goals (intros; omega)
end Go.Proofs
namespace Go.Proofs
open Go Go.Vm Go.Fg Go.Fg.PS
set_option maxRecDepth 100000
set_option maxHeartbeats 4000000
set_option linter.unusedSimpArgs false
set_option linter.unusedVariables false
variable {m : Int}
abbrev eI (m : Int) (o : Bool) (n : Nat) (a : PS (Zm m)) : D := .agg [aA m, .list o 1 (ints (L n a))]
theorem sZ {l : List Int} {o : Bool} {n : Nat} {a : PS (Zm m)} (h : l = L n a) : D.agg [aA m, .list o 1 (ints l)] = eI m o n a := by rw [h]
theorem sd (h : Md m) {e : Int} {z : Zm m} (h0 : 0 ≤ e) (h : Zm.mk m e = z) : D.lit (.int .i64 (e.tmod m)) = aA z.val := by rw [Zm.tmod_val h0 h]
theorem O2 (hm : Md m) (x y : Zm m) : aL Tryz.prog 215 [aA m, aA x.val, aA y.val] (aA (x * y).val) := by
 have h1 := hm.1
 have h2 := hm.2
 have h3 := hm.mul x y
 refine cF Tryz.tabOk aE Tryz.func215 rfl rfl ?_
 conv => whnf
 repeat' first | ((first | refine z0 ?_ | (refine zP (fun h => ?_) (fun h => ?_) <;> (try simp only [aB, aD] at h)) | refine zS ?_ | refine zV ?_ | (apply zI; refine zP aH ?_) | refine Or.inl ?_) <;> conv => whnf) | fail
 · exact sd hm (by omega) (by rw [Zm.mk_mul, Zm.mk_val, Zm.mk_val])
 · omega
theorem wT (o : Bool) (n : Nat) (hn : n ≤ 100) (a : PS (Zm m)) : aL Tryz.prog 181 [eI m o n a] (aA (n - 1)) := by
 have := Ag8 o m (L n a) (by simp; omega)
 simpa using this
theorem qW {d : Int} (n : Nat) (hd : d + 1 = n) (hn : n ≤ 100) : aL Tryz.prog 105 [aA m, aA d] (eI m true n 0) := by
 refine cF Tryz.tabOk aE Tryz.func105 rfl rfl ?_
 conv => whnf
 repeat' first | ((first | refine z0 ?_ | (refine zP (fun h => ?_) (fun h => ?_) <;> (try simp only [aB, aD] at h)) | refine zS ?_ | refine zV ?_ | (apply zI; refine zP aH ?_) | refine Or.inl ?_) <;> conv => whnf) | fail
 exact sZ (by rw [fT, show (d + 1).toNat = n by omega])
theorem V1 (hm : Md m) (o : Bool) (n : Nat) (hn : 1 ≤ n ∧ n ≤ 100) (a : PS (Zm m)) (c : Int) : aL Tryz.prog 106 [eI m o n a, aA c] (eI m true n (PS.C (Zm.mk m c))) := by
 have h1 := hm.1
 have h2 := hm.2
 refine cF Tryz.tabOk aE Tryz.func106 rfl rfl ?_
 conv => whnf
 repeat' first | ((first | refine z0 ?_ | (apply zI; refine zP (wT _ _ aF _) ?_) | (apply zI; refine zP (qW n aF aF) ?_) | (apply zI; refine zP (oV _ _ hm.pos (by omega)) ?_) | refine zS ?_ | refine zV ?_ | (apply zI; refine zP aH ?_) | refine Alt.fst ?_ | refine Or.inl ?_) <;> conv => whnf) | fail
 refine sZ ?_
 rw [show c % m = (Zm.mk m c).val from rfl, vF]
 exact dW (fun i hi => by rw [cL, dN]; split <;> rfl)
theorem Aay (hm : Md m) (o o' : Bool) (n : Nat) (hn : 1 ≤ n ∧ n ≤ 100) (a b : PS (Zm m)) : aL Tryz.prog 146 [eI m o n a, eI m o' n b] (eI m true n (a * b)) := by
 have h1 := hm.1
 have h2 := hm.2
 refine cF Tryz.tabOk aE Tryz.func146 rfl rfl ?_
 conv => whnf
 repeat' first | ((first | (apply zI; refine zP (wT _ _ aF _) ?_) | (apply zI; refine zP (qW n aF aF) ?_) | refine zS ?_ | refine Alt.fst ?_ | refine Or.inl ?_) <;> conv => whnf) | fail
 refine dZ Tryz.tabOk aE (α := Nat) (fun i => [(18, aA i)]) (fun i => [(5, some ⟨false, 1, ints (L n (tP a b i))⟩)]) (fun i => i ≤ n) (fun i => n - i) (0) ?_ ?_ ?_
 · omega
 · conv => whnf
   first | refine aG.auto ?_ | refine aC.auto ?_
   conv => whnf
   repeat' ((first | refine z1 ?_ | refine z2 ?_ | refine zV ?_ | refine zP ?_ ?_ | exact trivial) <;> try (conv => whnf))
   all_goals rw [M2]
 intro i hi
 conv => whnf
 repeat' first | ((first | refine z0 ?_ | (refine zP (fun h => ?_) (fun h => ?_) <;> (try simp only [aB, aD] at h)) | refine zS ?_ | refine zV ?_ | (apply zI; refine zP aH ?_) | refine Or.inl ?_) <;> conv => whnf) | fail
 · refine dZ Tryz.tabOk aE (α := Nat) (fun j => [(31, aA (n - i : Nat)), (32, aA j)]) (fun j => [(5, some ⟨false, 1, ints (L n (tQ a b i j))⟩)]) (fun j => j ≤ n - i) (fun j => n - j) (0) ?_ ?_ ?_
   · omega
   · conv => whnf
     first | refine aG.auto ?_ | refine aC.auto ?_
     conv => whnf
     repeat' ((first | refine z1 ?_ | refine z2 ?_ | refine zV ?_ | refine zP ?_ ?_ | exact trivial) <;> try (conv => whnf))
     all_goals rw [N9]
   intro j hj
   conv => whnf
   have hmul := Zm.val_range hm.pos (a.c i * b.c j)
   have hq := Zm.val_range hm.pos ((tQ a b i j).c (i + j))
   repeat' first | ((first | refine z0 ?_ | (apply zI; refine zP (O2 hm _ _) ?_) | (refine zP (fun h => ?_) (fun h => ?_) <;> (try simp only [aB, aD] at h)) | refine zS ?_ | refine zV ?_ | (apply zI; refine zP aH ?_) | refine Alt.fst ?_ | refine Or.inl ?_) <;> conv => whnf) | fail
   · refine Exists.intro (j + 1) (zP (by omega) (zP (by omega) ?_))
     first | refine aG.auto ?_ | refine aC.auto ?_
     conv => whnf
     repeat' ((first | refine z1 ?_ | refine z2 ?_ | refine zV ?_ | refine zP ?_ ?_ | exact trivial) <;> try (conv => whnf))
     rw [O6, ← vF, Zm.tmod_val (z := (tQ a b i j).c (i + j) + a.c i * b.c j) (by omega) (by simp only [Zm.mk_add, Zm.mk_val])]
   · refine Exists.intro (i + 1) (zP (by simp at *; omega) (zP (by simp at *; omega) ?_))
     first | refine aG.auto ?_ | refine aC.auto ?_
     conv => whnf
     repeat' ((first | refine z1 ?_ | refine z2 ?_ | refine zV ?_ | refine zP ?_ ?_ | exact trivial) <;> try (conv => whnf))
     rw [dW (A1 a b (by omega))]
 · exact sZ (dW (E1 a b (by simp at h; omega)))
theorem G7 {l l' : List Int} (h : l = l') : ints l = ints l' := by rw [h]
theorem Aic (hm : Md m) (o o' : Bool) (n : Nat) (hn : 1 ≤ n ∧ n ≤ 100) (a b : PS (Zm m)) : aL Tryz.prog 233 [eI m o n a, eI m o' n b] (eI m true n (a + b)) := by
 have h1 := hm.1
 have h2 := hm.2
 refine cF Tryz.tabOk aE Tryz.func233 rfl rfl ?_
 conv => whnf
 repeat' first | ((first | (apply zI; refine zP (wT _ _ aF _) ?_) | (apply zI; refine zP (qW n aF aF) ?_) | refine zS ?_ | refine Alt.fst ?_ | refine Or.inl ?_) <;> conv => whnf) | fail
 refine dZ Tryz.tabOk aE (α := Nat) (fun i => [(14, aA n), (15, aA i)]) (fun i => [(5, some ⟨false, 1, ints (L n (mix i (a + b) 0))⟩)]) (fun i => i ≤ n) (fun i => n - i) (0) ?_ ?_ ?_
 · omega
 · conv => whnf
   first | refine aG.auto ?_ | refine aC.auto ?_
   conv => whnf
   repeat' ((first | refine z1 ?_ | refine z2 ?_ | refine zV ?_ | refine zP ?_ ?_ | exact trivial) <;> try (conv => whnf))
   all_goals rw [kI]
 intro i hi
 conv => whnf
 have ha := Zm.val_range hm.pos (a.c i)
 have hb := Zm.val_range hm.pos (b.c i)
 repeat' first | ((first | refine z0 ?_ | (refine zP (fun h => ?_) (fun h => ?_) <;> (try simp only [aB, aD] at h)) | refine zS ?_ | refine zV ?_ | (apply zI; refine zP aH ?_) | refine Or.inl ?_) <;> conv => whnf) | fail
 · refine Exists.intro (i + 1) (zP (by omega) (zP (by omega) ?_))
   first | refine aG.auto ?_ | refine aC.auto ?_
   conv => whnf
   repeat' ((first | refine z1 ?_ | refine z2 ?_ | refine zV ?_ | refine zP ?_ ?_ | exact trivial) <;> try (conv => whnf))
   exact G7 (eW ((a + b).c i) (Zm.tmod_val (by omega) (by simp only [Zm.mk_add, Zm.mk_val]; rfl)) (Ag.of_eq (sS _ _ _).symm))
 · exact sZ (dW (fun k hk => by rw [eG, if_pos (by omega)]))
theorem Apv (hm : Md m) (o : Bool) (n : Nat) (hn : 1 ≤ n ∧ n ≤ 100) (a : PS (Zm m)) (c : Int) : aL Tryz.prog 234 [eI m o n a, aA c] (eI m true n (PS.C (Zm.mk m c) * a)) := by
 have h1 := hm.1
 have h2 := hm.2
 refine cF Tryz.tabOk aE Tryz.func234 rfl rfl ?_
 conv => whnf
 repeat' first | ((first | (apply zI; refine zP (wT _ _ aF _) ?_) | (apply zI; refine zP (qW n aF aF) ?_) | refine zS ?_ | refine Alt.fst ?_ | refine Or.inl ?_) <;> conv => whnf) | fail
 refine dZ Tryz.tabOk aE (α := Nat) (fun i => [(15, aA n), (16, aA i)]) (fun i => [(4, some ⟨false, 1, ints (L n (mix i (PS.C (Zm.mk m c) * a) 0))⟩)]) (fun i => i ≤ n) (fun i => n - i) (0) ?_ ?_ ?_
 · omega
 · conv => whnf
   first | refine aG.auto ?_ | refine aC.auto ?_
   conv => whnf
   repeat' ((first | refine z1 ?_ | refine z2 ?_ | refine zV ?_ | refine zP ?_ ?_ | exact trivial) <;> try (conv => whnf))
   all_goals rw [kI]
 intro i hi
 conv => whnf
 repeat' first | ((first | refine z0 ?_ | (apply zI; refine zP (oV _ _ hm.pos (by omega)) ?_) | (apply zI; refine zP (O2 hm (Zm.mk m c) _) ?_) | (refine zP (fun h => ?_) (fun h => ?_) <;> (try simp only [aB, aD] at h)) | refine zS ?_ | refine zV ?_ | (apply zI; refine zP aH ?_) | refine Alt.fst ?_ | refine Or.inl ?_) <;> conv => whnf) | fail
 · refine Exists.intro (i + 1) (zP (by omega) (zP (by omega) ?_))
   first | refine aG.auto ?_ | refine aC.auto ?_
   conv => whnf
   repeat' ((first | refine z1 ?_ | refine z2 ?_ | refine zV ?_ | refine zP ?_ ?_ | exact trivial) <;> try (conv => whnf))
   exact G7 (eW ((PS.C (Zm.mk m c) * a).c i) (by rw [C_mul]) (Ag.of_eq (sS _ _ _).symm))
 · exact sZ (dW (fun k hk => by rw [eG, if_pos (by omega)]))
abbrev LD (o : Bool) (n : Nat) (a : PS (Zm m)) : D := .list o 1 (ints (L n a))
theorem T7 {l : List Int} {o : Bool} {n : Nat} {a : PS (Zm m)} (h : l = L n a) : D.list o 1 (ints l) = LD o n a := by rw [h]
theorem cQ {l l' : List Int} (h : l = l') : ints l = ints l' := by rw [h]
theorem sF (hm : Md m) (o o' : Bool) (n na nb : Nat) {d : Int} (hd : d + 1 = n) (hn : n ≤ 100) (h1 : n ≤ na) (h2 : n ≤ nb) (h3 : na ≤ 1048576) (h4 : nb ≤ 1048576) (a b : PS (Zm m)) :
   aL Tryz.prog 231 [aA m, LD o na a, LD o' nb b, aA d] (LD true n (a * b)) := by
 have hm1 := hm.1
 have hm2 := hm.2
 refine cF Tryz.tabOk aE Tryz.func231 rfl rfl ?_
 conv => whnf
 repeat' first | ((first | refine z0 ?_ | (refine zP (fun h => ?_) (fun h => ?_) <;> (try simp only [aB, aD] at h)) | refine zS ?_ | refine zV ?_ | (apply zI; refine zP aH ?_) | refine Or.inl ?_) <;> conv => whnf) | fail
 refine dZ Tryz.tabOk aE (α := Nat) (fun i => [(10, aA i)]) (fun i => [(0, some ⟨false, 1, ints (L n (tP a b i))⟩)]) (fun i => i ≤ n) (fun i => n - i) (0) ?_ ?_ ?_
 · omega
 · conv => whnf
   first | refine aG.auto ?_ | refine aC.auto ?_
   conv => whnf
   repeat' ((first | refine z1 ?_ | refine z2 ?_ | refine zV ?_ | refine zP ?_ ?_ | exact trivial) <;> try (conv => whnf))
   all_goals rw [M2]
   all_goals (rw [fT, show (d + 1).toNat = n by omega])
 intro i hi
 conv => whnf
 repeat' first | ((first | refine z0 ?_ | (refine zP (fun h => ?_) (fun h => ?_) <;> (try simp only [aB, aD] at h)) | refine zS ?_ | refine zV ?_ | (apply zI; refine zP aH ?_) | refine Or.inl ?_) <;> conv => whnf) | fail
 · refine dZ Tryz.tabOk aE (α := Nat) (fun j => [(11, aA j)]) (fun j => [(0, some ⟨false, 1, ints (L n (tQ a b i j))⟩)]) (fun j => j ≤ n - i) (fun j => n - j) (0) ?_ ?_ ?_
   · omega
   · conv => whnf
     first | refine aG.auto ?_ | refine aC.auto ?_
     conv => whnf
     repeat' ((first | refine z1 ?_ | refine z2 ?_ | refine zV ?_ | refine zP ?_ ?_ | exact trivial) <;> try (conv => whnf))
     all_goals rw [N9]
   intro j hj
   conv => whnf
   have hmul := Zm.val_range hm.pos (a.c i * b.c j)
   have hmul2 := hm.mul (a.c i) (b.c j)
   have hq := Zm.val_range hm.pos ((tQ a b i j).c (i + j))
   repeat' first | ((first | refine z0 ?_ | (refine zP (fun h => ?_) (fun h => ?_) <;> (try simp only [aB, aD] at h)) | refine zS ?_ | refine zV ?_ | (apply zI; refine zP aH ?_) | refine Or.inl ?_) <;> conv => whnf) | fail
   · refine Exists.intro (j + 1) (zP (by omega) (zP (by omega) ?_))
     first | refine aG.auto ?_ | refine aC.auto ?_
     conv => whnf
     repeat' ((first | refine z1 ?_ | refine z2 ?_ | refine zV ?_ | refine zP ?_ ?_ | exact trivial) <;> try (conv => whnf))
     exact cQ (eW _ (kO hm _ _ _) (Ag.of_eq (O6 a b i j).symm))
   all_goals
     refine Exists.intro (i + 1) (zP (by simp at *; omega) (zP (by simp at *; omega) ?_))
     first | refine aG.auto ?_ | refine aC.auto ?_
     conv => whnf
     repeat' ((first | refine z1 ?_ | refine z2 ?_ | refine zV ?_ | refine zP ?_ ?_ | exact trivial) <;> try (conv => whnf))
   · exact cQ (dW (Ag.of_eq (Anh a b i j (Zm.val_eq_zero.1 (Classical.not_not.1 (by assumption))))))
   · exact cQ (dW (A1 a b (by omega)))
   · exact cQ (dW (A1 a b (by simp at *; omega)))
 all_goals exact T7 (dW (E1 a b (by simp at *; omega)))
theorem Ai2 (hm : Md m) (o : Bool) (n na : Nat) {d : Int} (hd : d + 1 = n) (hn : 1 ≤ n ∧ n ≤ 100) (h1 : n ≤ na) (h3 : na ≤ 1048576) (a : PS (Zm m)) (u : Zm m) (hu : aL Tryz.prog 299 [aA m, aA (a.c 0).val] (aA u.val)) :
   aL Tryz.prog 232 [aA m, LD o na a, aA d] (LD true n (inv u a)) := by
 have hm1 := hm.1
 have hm2 := hm.2
 refine cF Tryz.tabOk aE Tryz.func232 rfl rfl ?_
 conv => whnf
 repeat' first | ((first | (apply zI; refine zP (hu) ?_) | refine zV ?_ | (apply zI; refine zP aH ?_) | refine Or.inl ?_) <;> conv => whnf) | fail
 refine dZ Tryz.tabOk aE (α := Nat) (fun t => [(9, aA ((t : Int) + 1)), (8, .ref 1 [] 1 0 (t + 1)), (18, .undef)]) (fun t => [(1, some ⟨false, 1, ints (L (t + 1) (inv u a))⟩)]) (fun t => t + 1 ≤ n) (fun t => n - t) (0) ?_ ?_ ?_
 · omega
 · conv => whnf
   first | refine aG.auto ?_ | refine aC.auto ?_
   conv => whnf
   repeat' ((first | refine z1 ?_ | refine z2 ?_ | refine zV ?_ | refine zP ?_ ?_ | exact trivial) <;> try (conv => whnf))
 intro t ht
 conv => whnf
 repeat' first | ((first | refine z0 ?_ | (refine zP (fun h => ?_) (fun h => ?_) <;> (try simp only [aB, aD] at h)) | refine zS ?_ | refine zV ?_ | (apply zI; refine zP aH ?_) | refine Or.inl ?_) <;> conv => whnf) | fail
 · refine dZ Tryz.tabOk aE (α := Nat) (fun q => [(10, aA (sm q (fun j => a.c (j + 1) * (inv u a).c (t - j))).val), (11, aA ((q : Int) + 1))]) (fun q => []) (fun q => q ≤ t + 1) (fun q => t + 1 - q) (0) ?_ ?_ ?_
   · omega
   · conv => whnf
     first | refine aG.auto ?_ | refine aC.auto ?_
     conv => whnf
     repeat' ((first | refine z1 ?_ | refine z2 ?_ | refine zV ?_ | refine zP ?_ ?_ | exact trivial) <;> try (conv => whnf))
   intro q hq
   conv => whnf
   repeat' first | ((first | refine z0 ?_ | (refine zP (fun h => ?_) (fun h => ?_) <;> (try simp only [aB, aD] at h)) | refine zS ?_ | refine zV ?_ | (apply zI; refine zP aH ?_) | refine Or.inl ?_) <;> conv => whnf) | fail
   · refine Exists.intro (q + 1) (zP (by omega) (zP (by omega) ?_))
     first | refine aG.auto ?_ | refine aC.auto ?_
     conv => whnf
     repeat' ((first | refine z1 ?_ | refine z2 ?_ | refine zV ?_ | refine zP ?_ ?_ | exact trivial) <;> try (conv => whnf))
     rw [kO hm, cB]
   · exact absurd (by assumption) (show ¬ ¬ (q : Int) + 1 < ((L na a).length : Nat) by simp; omega)
   · have hqt : q = t + 1 := by omega
     refine Exists.intro (t + 1) (zP (by omega) (zP (by omega) ?_))
     first | refine aG.auto ?_ | refine aC.auto ?_
     conv => whnf
     repeat' ((first | refine z1 ?_ | refine z2 ?_ | refine zV ?_ | refine zP ?_ ?_ | exact trivial) <;> try (conv => whnf))
     refine cQ (nU ?_)
     rw [hqt, F4 hm, ← Aqs, ← An7]
 · rw [show t + 1 = n by omega]
theorem Ain (hm : Md m) (o o' : Bool) (n na nb : Nat) {d : Int} (hd : d + 1 = n) (hn : 1 ≤ n ∧ n ≤ 100) (h1 : n ≤ na) (h2 : n ≤ nb) (h3 : na ≤ 1048576) (h4 : nb ≤ 1048576) (a f : PS (Zm m)) :
   aL Tryz.prog 306 [aA m, LD o na a, LD o' nb f, aA d] (LD true n (fR a f 0 n)) := by
 have hm1 := hm.1
 have hm2 := hm.2
 refine cF Tryz.tabOk aE Tryz.func306 rfl rfl ?_
 conv => whnf
 repeat' first | ((first | refine z0 ?_ | (refine zP (fun h => ?_) (fun h => ?_) <;> (try simp only [aB, aD] at h)) | refine zS ?_ | refine zV ?_ | (apply zI; refine zP aH ?_) | refine Or.inl ?_) <;> conv => whnf) | fail
 refine dZ Tryz.tabOk aE (α := Nat) (fun t => [(10, aA ((n : Int) - 1 - t)), (9, .ref 0 [] 1 0 n), (13, .undef)]) (fun t => [(0, some ⟨false, 1, ints (L n (fR a f (n - t) t))⟩)]) (fun t => t ≤ n) (fun t => n - t) (0) ?_ ?_ ?_
 · omega
 · conv => whnf
   first | refine aG.auto ?_ | refine aC.auto ?_
   conv => whnf
   repeat' ((first | refine z1 ?_ | refine z2 ?_ | refine zV ?_ | refine zP ?_ ?_ | exact trivial) <;> try (conv => whnf))
   rw [show (d + 1).toNat = n by omega, ← fT (m := m)]
   rfl
 intro t ht
 conv => whnf
 repeat' first | ((first | refine z0 ?_ | (apply zI; refine zP (sF hm _ _ n n nb hd (by omega) (by omega) (by omega) (by omega) (by omega) _ _) ?_) | (refine zP (fun h => ?_) (fun h => ?_) <;> (try simp only [aB, aD] at h)) | refine zS ?_ | refine zV ?_ | (apply zI; refine zP aH ?_) | refine Or.inl ?_) <;> conv => whnf) | fail
 · refine Exists.intro (t + 1) (zP (by omega) (zP (by omega) ?_))
   first | refine aG.auto ?_ | refine aC.auto ?_
   conv => whnf
   repeat' ((first | refine z1 ?_ | refine z2 ?_ | refine zV ?_ | refine zP ?_ ?_ | exact trivial) <;> try (conv => whnf))
   have e : (n : Int) - 1 - t = ((n - 1 - t : Nat) : Int) := by omega
   refine cQ ?_
   rw [e, Int.toNat_natCast, rM hm]
   refine eW _ rfl (Ag.of_eq ?_)
   rw [show n - (t + 1) = n - 1 - t by omega, ← Anr, show n - 1 - t + 1 = n - t by omega]
   ext k
   rw [cL, add_c, dN]
   split
   · rename_i hk; subst hk; rfl
   · exact (Go.Fg.add_zero _).symm
 · rw [show n = t by omega]; simp
theorem Ao3 (hm : Md m) (o : Bool) (n na : Nat) {d : Int} (hd : d + 1 = n) (hn : 2 ≤ n ∧ n ≤ 100) (h1 : n ≤ na) (h3 : na ≤ 1048576) (a : PS (Zm m)) (u : Zm m) (hu : aL Tryz.prog 299 [aA m, aA (a.c 1).val] (aA u.val)) :
   aL Tryz.prog 246 [aA m, LD o na a, aA d] (LD true n (rev u a)) := by
 have hm1 := hm.1
 have hm2 := hm.2
 refine cF Tryz.tabOk aE Tryz.func246 rfl rfl ?_
 conv => whnf
 repeat' first | ((first | (apply zI; refine zP (hu) ?_) | refine zV ?_ | (apply zI; refine zP aH ?_) | refine Or.inl ?_) <;> conv => whnf) | fail
 refine dZ Tryz.tabOk aE (α := Nat) (fun t => [(9, aA ((t : Int) + 2)), (7, .ref 0 [] 1 0 n), (13, .undef), (19, .undef), (21, .undef)]) (fun t => [(0, some ⟨false, 1, ints (L n (lF u a (t + 1)))⟩)]) (fun t => t + 2 ≤ n) (fun t => n - t) (0) ?_ ?_ ?_
 · omega
 · conv => whnf
   first | refine aG.auto ?_ | refine aC.auto ?_
   conv => whnf
   repeat' ((first | refine z1 ?_ | refine z2 ?_ | refine zV ?_ | refine zP ?_ ?_ | exact trivial) <;> try (conv => whnf))
   rw [show (d + 1).toNat = n by omega, ← fT (m := m)]
   exact cQ (eW u rfl (fun i hi => rfl))
 intro t ht
 conv => whnf
 repeat' first | ((first | refine z0 ?_ | (apply zI; refine zP (Ain hm _ _ (t + 3) na n (by omega) (by omega) (by omega) (by omega) (by omega) (by omega) _ _) ?_) | (refine zP (fun h => ?_) (fun h => ?_) <;> (try simp only [aB, aD] at h)) | refine zV ?_ | (apply zI; refine zP aH ?_) | refine Or.inl ?_) <;> conv => whnf) | fail
 · refine Exists.intro (t + 1) (zP (by omega) (zP (by omega) ?_))
   first | refine aG.auto ?_ | refine aC.auto ?_
   conv => whnf
   repeat' ((first | refine z1 ?_ | refine z2 ?_ | refine zV ?_ | refine zP ?_ ?_ | exact trivial) <;> try (conv => whnf))
   refine cQ (eW _ (F4 hm _ _) (Ag.of_eq ?_))
   rw [J5 u a (t + 1) (by omega), W3 (Ahl u a _) (show t + 1 + 1 < t + 3 by omega)]
   rfl
 · exact T7 (dW ((Arj u a (t + 1)).le (by omega)))
abbrev cI (m : Int) (o p : Bool) (n : Nat) (f : PS (PS (Zm m))) : D := .agg [aA m, .list o 1 (rows p (Tb n f))]
abbrev cH (o p : Bool) (n : Nat) (f : PS (PS (Zm m))) : D := .list o 1 (rows p (Tb n f))
theorem E7 {t : List (List Int)} {o p : Bool} {n : Nat} {f : PS (PS (Zm m))} (h : t = Tb n f) : D.agg [aA m, .list o 1 (rows p t)] = cI m o p n f := by rw [h]
theorem sK {t : List (List Int)} {o p : Bool} {n : Nat} {f : PS (PS (Zm m))} (h : t = Tb n f) : D.list o 1 (rows p t) = cH o p n f := by rw [h]
theorem iM (o p : Bool) (n : Nat) (hn : n ≤ 100) (f : PS (PS (Zm m))) : aL Tryz.prog 124 [cI m o p n f] (aA (n - 1)) := by
 refine cF Tryz.tabOk aE Tryz.func124 rfl rfl ?_
 conv => whnf
 repeat' first | ((first | refine z0 ?_ | (refine zP (fun h => ?_) (fun h => ?_) <;> (try simp only [aB, aD] at h)) | refine zS ?_ | refine zV ?_ | (apply zI; refine zP aK ?_) | (apply zI; refine zP aH ?_) | refine zA ?_ | refine Alt.fst ?_ | refine Or.inl ?_) <;> conv => whnf) | fail
 simp [aB]
theorem wJ (n : Nat) : List.replicate n 0 = L n (0 : PS (Zm m)) := (fT n).symm
theorem Aaw {d : Int} (n : Nat) (hd : d + 1 = n) (hn : n ≤ 100) : aL Tryz.prog 214 [aA m, aA d] (cI m true true n (0 : PS (PS (Zm m)))) := by
 refine cF Tryz.tabOk aE Tryz.func214 rfl rfl ?_
 conv => whnf
 repeat' first | ((first | refine z0 ?_ | (refine zP (fun h => ?_) (fun h => ?_) <;> (try simp only [aB, aD] at h)) | refine zS ?_ | refine zV ?_ | (apply zI; refine zP aK ?_) | (apply zI; refine zP aH ?_) | refine zA ?_ | refine Alt.fst ?_ | refine Or.inl ?_) <;> conv => whnf) | fail
 refine dZ Tryz.tabOk aE (α := Nat) (fun i => [(11, aA i)]) (fun i => [(1, some ⟨true, 1, [aA m, .ref 2 [] 1 0 i]⟩), (2, some ⟨false, 1, rows true (mR n i (0 : PS (PS (Zm m))))⟩)]) (fun i => i ≤ n) (fun i => n - i) (0) ?_ ?_ ?_
 · omega
 · conv => whnf
   first | refine aG.auto ?_ | refine aC.auto ?_
   conv => whnf
   repeat' ((first | refine z1 ?_ | refine zP ?_ ?_ | exact trivial) <;> try (conv => whnf))
 intro i hi
 conv => whnf
 repeat' first | ((first | refine z0 ?_ | (refine zP (fun h => ?_) (fun h => ?_) <;> (try simp only [aB, aD] at h)) | refine zS ?_ | refine zV ?_ | (apply zI; refine zP aK ?_) | (apply zI; refine zP aH ?_) | refine zA ?_ | refine Alt.fst ?_ | refine Or.inl ?_) <;> conv => whnf) | fail
 · refine Exists.intro (i + 1) (zP (by omega) (zP (by omega) ?_))
   first | refine aG.auto ?_ | refine aC.auto ?_
   conv => whnf
   repeat' ((first | refine z1 ?_ | refine zP ?_ ?_ | exact trivial) <;> try (conv => whnf))
   exact bV (Af9 (by rw [wJ, show (d + 1 - (i : Int)).toNat = n - i by omega]; rfl))
 · exact E7 (by rw [show i = n by omega, Ag5])
theorem kT {d : Int} (n : Nat) (hd : d + 1 = n) (hn : n ≤ 100) : aL Tryz.prog 217 [aA d] (cH true true n (0 : PS (PS (Zm m)))) := by
 refine cF Tryz.tabOk aE Tryz.func217 rfl rfl ?_
 conv => whnf
 repeat' first | ((first | refine z0 ?_ | (refine zP (fun h => ?_) (fun h => ?_) <;> (try simp only [aB, aD] at h)) | refine zS ?_ | refine zV ?_ | (apply zI; refine zP aK ?_) | (apply zI; refine zP aH ?_) | refine zA ?_ | refine Alt.fst ?_ | refine Or.inl ?_) <;> conv => whnf) | fail
 refine dZ Tryz.tabOk aE (α := Nat) (fun i => [(3, .ref 0 [] 1 0 i), (4, aA i), (5, .undef)]) (fun i => [(0, some ⟨false, 1, rows true (mR n i (0 : PS (PS (Zm m))))⟩)]) (fun i => i ≤ n) (fun i => n - i) (0) ?_ ?_ ?_
 · omega
 · conv => whnf
   first | refine aG.auto ?_ | refine aC.auto ?_
   conv => whnf
   repeat' ((first | refine z1 ?_ | refine zP ?_ ?_ | exact trivial) <;> try (conv => whnf))
 intro i hi
 conv => whnf
 repeat' first | ((first | refine z0 ?_ | (refine zP (fun h => ?_) (fun h => ?_) <;> (try simp only [aB, aD] at h)) | refine zS ?_ | refine zV ?_ | (apply zI; refine zP aK ?_) | (apply zI; refine zP aH ?_) | refine zA ?_ | refine Alt.fst ?_ | refine Or.inl ?_) <;> conv => whnf) | fail
 · refine Exists.intro (i + 1) (zP (by omega) (zP (by omega) ?_))
   first | refine aG.auto ?_ | refine aC.auto ?_
   conv => whnf
   repeat' ((first | refine z1 ?_ | refine zP ?_ ?_ | exact trivial) <;> try (conv => whnf))
   exact bV (Af9 (by rw [wJ, show (d - (i : Int) + 1).toNat = n - i by omega]; rfl))
 · exact sK (by rw [show i = n by omega, Ag5])
theorem Aq9 (hm : Md m) (o p : Bool) (n : Nat) (hn : 1 ≤ n ∧ n ≤ 100) (f : PS (PS (Zm m))) (c : Int) : aL Tryz.prog 102 [cI m o p n f, aA c] (cI m true true n (PS.C (PS.C (Zm.mk m c)))) := by
 have hm1 := hm.1
 have hm2 := hm.2
 refine cF Tryz.tabOk aE Tryz.func102 rfl rfl ?_
 conv => whnf
 repeat' first | ((first | refine z0 ?_ | (apply zI; refine zP (iM _ _ _ aF _) ?_) | (apply zI; refine zP (Aaw n aF aF) ?_) | (apply zI; refine zP (oV _ _ hm.pos (by omega)) ?_) | refine zS ?_ | refine zV ?_ | (apply zI; refine zP aK ?_) | (apply zI; refine zP aH ?_) | refine zA ?_ | refine Alt.fst ?_ | refine Or.inl ?_) <;> conv => whnf) | fail
 refine E7 (dX (Zm.mk m c) rfl (by omega) (fun i j hij => ?_))
 rw [fP, dN]
 by_cases h : i = 0
 · rw [if_pos h, dN]
   by_cases h2 : j = 0
   · rw [if_pos ⟨h, h2⟩, if_pos h2]
   · rw [if_neg (fun x => h2 x.2), if_neg h2]; rfl
 · rw [if_neg (fun x => h x.1), if_neg h]; rfl
theorem Am9 (hm : Md m) (o p o' p' : Bool) (n : Nat) (hn : 1 ≤ n ∧ n ≤ 100) (f g : PS (PS (Zm m))) : aL Tryz.prog 94 [cI m o p n f, cI m o' p' n g] (cI m true true n (f * g)) := by
 have hm1 := hm.1
 have hm2 := hm.2
 refine cF Tryz.tabOk aE Tryz.func94 rfl rfl ?_
 conv => whnf
 repeat' first | ((first | (apply zI; refine zP (iM _ _ _ aF _) ?_) | (apply zI; refine zP (Aaw n aF aF) ?_) | refine zS ?_ | refine Alt.fst ?_ | refine Or.inl ?_) <;> conv => whnf) | fail
 refine dZ Tryz.tabOk aE (α := Nat) (fun i => [(24, aA i)]) (fun i => [(5, some ⟨false, 1, rows true (Tb n (pP f g i 0))⟩)]) (fun i => i ≤ n) (fun i => n - i) (0) ?_ ?_ ?_
 · omega
 · conv => whnf
   first | refine aG.auto ?_ | refine aC.auto ?_
   conv => whnf
   repeat' ((first | refine z1 ?_ | refine zP ?_ ?_ | exact trivial) <;> try (conv => whnf))
   all_goals rw [yO]
 intro i hi
 conv => whnf
 repeat' first | ((first | refine z0 ?_ | (refine zP (fun h => ?_) (fun h => ?_) <;> (try simp only [aB, aD] at h)) | refine zS ?_ | refine zV ?_ | (apply zI; refine zP aK ?_) | (apply zI; refine zP aH ?_) | refine zA ?_ | refine Alt.fst ?_ | refine Or.inl ?_) <;> conv => whnf) | fail
 · refine dZ Tryz.tabOk aE (α := Nat) (fun j => [(31, aA j)]) (fun j => [(5, some ⟨false, 1, rows true (Tb n (pP f g i j))⟩)]) (fun j => j ≤ n - i) (fun j => n - j) (0) ?_ ?_ ?_
   · omega
   · conv => whnf
     first | refine aG.auto ?_ | refine aC.auto ?_
     conv => whnf
     repeat' ((first | refine z1 ?_ | refine zP ?_ ?_ | exact trivial) <;> try (conv => whnf))
   intro j hj
   conv => whnf
   repeat' first | ((first | refine z0 ?_ | (refine zP (fun h => ?_) (fun h => ?_) <;> (try simp only [aB, aD] at h)) | refine zS ?_ | refine zV ?_ | (apply zI; refine zP aK ?_) | (apply zI; refine zP aH ?_) | refine zA ?_ | refine Alt.fst ?_ | refine Or.inl ?_) <;> conv => whnf) | fail
   · refine Exists.intro (j + 1) (zP aF (zP aF ?_))
     first | refine aG.auto ?_ | refine aC.auto ?_
     conv => whnf
     repeat' ((first | refine z1 ?_ | refine zP ?_ ?_ | exact trivial) <;> try (conv => whnf))
     rw [P1 f g i j (Zm.val_eq_zero.1 (by assumption))]
   · refine dZ Tryz.tabOk aE (α := Nat) (fun k => [(11, aA k)]) (fun k => [(5, some ⟨false, 1, rows true (Tb n (pQ f g i j k 0))⟩)]) (fun k => i + j + k ≤ n) (fun k => n - k) (0) ?_ ?_ ?_
     · exact aF
     · conv => whnf
       first | refine aG.auto ?_ | refine aC.auto ?_
       conv => whnf
       repeat' ((first | refine z1 ?_ | refine zP ?_ ?_ | exact trivial) <;> try (conv => whnf))
       all_goals rw [zY]
     intro k hk
     conv => whnf
     repeat' first | ((first | refine z0 ?_ | (refine zP (fun h => ?_) (fun h => ?_) <;> (try simp only [aB, aD] at h)) | refine zS ?_ | refine zV ?_ | (apply zI; refine zP aK ?_) | (apply zI; refine zP aH ?_) | refine zA ?_ | refine Alt.fst ?_ | refine Or.inl ?_) <;> conv => whnf) | fail
     · refine dZ Tryz.tabOk aE (α := Nat) (fun l => [(62, aA l)]) (fun l => [(5, some ⟨false, 1, rows true (Tb n (pQ f g i j k l))⟩)]) (fun l => i + j + k + l ≤ n) (fun l => n - l) (0) ?_ ?_ ?_
       · exact aF
       · conv => whnf
         first | refine aG.auto ?_ | refine aC.auto ?_
         conv => whnf
         repeat' ((first | refine z1 ?_ | refine zP ?_ ?_ | exact trivial) <;> try (conv => whnf))
       intro l hll
       conv => whnf
       have hx1 := Zm.val_range hm.pos (((pQ f g i j k l).c (i + k)).c (j + l))
       have hx2 := Zm.val_range hm.pos ((f.c i).c j * (g.c k).c l)
       repeat' first | ((first | (apply zI; refine zP (O2 hm _ _) ?_) | (refine zP (fun h => ?_) (fun h => ?_) <;> (try simp only [aB, aD] at h)) | refine zS ?_ | refine zV ?_ | (apply zI; refine zP aK ?_) | (apply zI; refine zP aH ?_) | refine Alt.fst ?_ | refine Or.inl ?_) <;> conv => whnf) | fail
       · refine Exists.intro (l + 1) (zP aF (zP aF ?_))
         first | refine aG.auto ?_ | refine aC.auto ?_
         conv => whnf
         repeat' ((first | refine z1 ?_ | refine zP ?_ ?_ | exact trivial) <;> try (conv => whnf))
         exact bV (dX _ (rM hm _ _) aF (cC.of_eq (B2 f g i j k l).symm))
       · refine Exists.intro (k + 1) (zP aF (zP aF ?_))
         first | refine aG.auto ?_ | refine aC.auto ?_
         conv => whnf
         repeat' ((first | refine z1 ?_ | refine zP ?_ ?_ | exact trivial) <;> try (conv => whnf))
         exact bV (kA (Adt f g aF))
     · refine Exists.intro (j + 1) (zP aF (zP aF ?_))
       first | refine aG.auto ?_ | refine aC.auto ?_
       conv => whnf
       repeat' ((first | refine z1 ?_ | refine zP ?_ ?_ | exact trivial) <;> try (conv => whnf))
       exact bV (kA (Ada f g aF))
   · refine Exists.intro (i + 1) (zP aF (zP aF ?_))
     first | refine aG.auto ?_ | refine aC.auto ?_
     conv => whnf
     repeat' ((first | refine z1 ?_ | refine zP ?_ ?_ | exact trivial) <;> try (conv => whnf))
     exact bV (kA (Afx f g aF))
 · exact E7 (kA (Aee f g aF))
end Go.Proofs
