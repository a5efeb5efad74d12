/- Parts of the proof. -/
import Derived.Test.YtghcpginhamelaaGreatTab
import Derived.Test.YtghcpginhamelaaGreatVm28
import Derived.Test.YtghcpginhamelaaGreatVm32
import Derived.Test.YtghcpginhamelaaGreatAlg7
namespace Go.Proofs
open Go Go.Vm Go.Fg
theorem aF : Tryz.prog.follows .mixedOrders = true := by kernel_rfl
def bB (n lo hi : Int) : Bool := decide (lo ≤ n ∧ n ≤ hi)
set_option maxRecDepth 100000
set_option linter.unusedSimpArgs false
set_option linter.unusedVariables false
theorem mT (n lo hi : Int) : aI Tryz.prog 125 [aA n, aA lo, aA hi] (bH (bB n lo hi)) := by
 refine bZ Tryz.tabOk aF Tryz.func125 rfl rfl ?_
 conv => whnf
 repeat' first | ((first | refine z0 ?_ | (refine zP (fun h => ?_) (fun h => ?_) <;> (try simp only [aB, aE] at h)) | refine zS ?_ | refine zV ?_ | (apply zI; refine zP aG ?_) | refine Or.inl ?_) <;> conv => whnf) | fail
 all_goals (refine cD ?_; first | rfl | (simp_all [bB]; done) | (simp_all [bB]; omega) | (simp_all [bB]; intros; omega))
theorem sW (n lo hi : Int) : aI Tryz.prog 144 [aA n, aA lo, aA hi] (bH (bB n lo hi)) := by
 refine bZ Tryz.tabOk aF Tryz.func144 rfl rfl ?_
 conv => whnf
 repeat' first | ((first | refine z0 ?_ | (refine zP (fun h => ?_) (fun h => ?_) <;> (try simp only [aB, aE] at h)) | refine zS ?_ | refine zV ?_ | (apply zI; refine zP aG ?_) | refine Or.inl ?_) <;> conv => whnf) | fail
 all_goals (refine cD ?_; first | rfl | (simp_all [bB]; done) | (simp_all [bB]; omega) | (simp_all [bB]; intros; omega))
theorem S8 (m : Int) : aI Tryz.prog 210 [aA m] (bH (bB m 2 10000)) := by
 refine bZ Tryz.tabOk aF Tryz.func210 rfl rfl ?_
 conv => whnf
 repeat' first | ((first | refine z0 ?_ | (apply zI; refine zP (mT _ _ _) ?_) | (refine zP (fun h => ?_) (fun h => ?_) <;> (try simp only [aB, aE] at h)) | refine zV ?_ | refine Or.inl ?_) <;> conv => whnf) | fail
 all_goals (refine cD ?_; first | rfl | (simp_all []; done) | (simp_all []; omega) | (simp_all []; intros; omega))
theorem Ad7 (m : Int) : aI Tryz.prog 253 [aA m] (bH (bB m 2 10000)) := by
 refine bZ Tryz.tabOk aF Tryz.func253 rfl rfl ?_
 conv => whnf
 repeat' first | ((first | refine z0 ?_ | (apply zI; refine zP (sW _ _ _) ?_) | (refine zP (fun h => ?_) (fun h => ?_) <;> (try simp only [aB, aE] at h)) | refine zV ?_ | (apply zI; refine zP aG ?_) | refine Or.inl ?_) <;> conv => whnf) | fail
 all_goals (refine cD ?_; first | rfl | (simp_all []; done) | (simp_all []; omega) | (simp_all []; intros; omega))
theorem yW (a m : Int) (h1 : dQ .i64 (m - 1)) : aI Tryz.prog 188 [aA a, aA m] (bH (bB a 0 (m - 1))) := by
 refine bZ Tryz.tabOk aF Tryz.func188 rfl rfl ?_
 conv => whnf
 repeat' first | ((first | refine z0 ?_ | (apply zI; refine zP (mT _ _ _) ?_) | (refine zP (fun h => ?_) (fun h => ?_) <;> (try simp only [aB, aE] at h)) | refine zV ?_ | refine Or.inl ?_) <;> conv => whnf) | fail
 all_goals (refine cD ?_; first | rfl | (simp_all []; done) | (simp_all []; omega) | (simp_all []; intros; omega))
def gR (m : Int) (l : List Int) : Bool := l.all fun x => bB x 0 (m - 1)
theorem L4 {m : Int} {l : List Int} (h : ∀ j, j < l.length → bB (l.getD j 0) 0 (m - 1) = true) : gR m l = true := by
 refine List.all_eq_true.2 (fun x hx => ?_)
 obtain ⟨i, hi, rfl⟩ := List.getElem_of_mem hx
 have := h i hi
 simpa [hi] using this
theorem Aup {m : Int} {l : List Int} {i : Nat} (hi : i < l.length) (h : bB (l.getD i 0) 0 (m - 1) = false) : gR m l = false := by
 refine List.all_eq_false.2 ⟨l[i], List.getElem_mem hi, ?_⟩
 simp [hi] at h
 simp [h]
theorem Adf {m : Int} {l : List Int} : gR m l = true ↔ Nums m l := by
 simp only [gR, List.all_eq_true, bB, decide_eq_true_eq, Nums]
 exact ⟨fun h x hx => by have := h x hx; omega, fun h x hx => by have := h x hx; omega⟩
theorem wB {m : Int} (h : bB m 2 10000 = true) : dQ .i64 (m - 1) := by
 simp only [bB, decide_eq_true_eq] at h
 exact eJ (by omega) (by omega)
theorem oR {i : Nat} {p : Nat → Prop} (h : ∀ j, j < i → p j) (h2 : p i) : ∀ j, j < i + 1 → p j := fun j hj => by
 rcases Nat.lt_or_ge j i with h' | h'
 · exact h j h'
 · rw [show j = i by omega]; exact h2
theorem Ac3 (o : Bool) (m : Int) (l : List Int) (h1 : dQ .i64 (m - 1)) (hl : l.length ≤ 4611686018427387904) : aI Tryz.prog 254 [aA m, .list o 1 (ints l)] (bH (gR m l)) := by
 refine bZ Tryz.tabOk aF Tryz.func254 rfl rfl ?_
 conv => whnf
 refine dR Tryz.tabOk aF (α := Nat) (fun i => [(5, aA i)]) (fun i => []) (fun i => i ≤ l.length ∧ ∀ j, j < i → bB (l.getD j 0) 0 (m - 1) = true) (fun i => l.length - i) (0) ?_ ?_ ?_
 · exact ⟨by omega, by omega⟩
 · conv => whnf
   first | refine aH.auto ?_ | refine aC.auto ?_
   conv => whnf
   repeat' ((first | refine z1 ?_ | refine z2 ?_ | exact trivial) <;> try (conv => whnf))
 intro i hi
 conv => whnf
 repeat' first | ((first | refine z0 ?_ | (apply zI; refine zP (sW _ _ _) ?_) | (refine zP (fun h => ?_) (fun h => ?_) <;> (try simp only [aB, aE] at h)) | refine zV ?_ | (apply zI; refine zP aG ?_) | refine Or.inl ?_) <;> conv => whnf) | fail
 · refine Exists.intro (i + 1) (zP ⟨by omega, oR hi.2 (by assumption)⟩ (zP (by omega) ?_))
   first | refine aH.auto ?_ | refine aC.auto ?_
   conv => whnf
   repeat' ((first | refine z1 ?_ | refine z2 ?_ | exact trivial) <;> try (conv => whnf))
 · exact cD (Aup (i := i) (by omega) (by assumption)).symm
 · exact cD (L4 (fun j hj => hi.2 j (by omega))).symm
theorem getD_set_ne {l : List Int} {i j : Nat} {x : Int} (h : i ≠ j) : (l.set i x).getD j 0 = l.getD j 0 := by simp [List.getElem?_set_ne h]
def Ad5 (n m : Int) : Int := (n.tmod m + m).tmod m
theorem Ae9 {n m : Int} (h : 0 < m) : Ad5 n m = n % m := by
 unfold Ad5
 have h1 := Int.lt_tmod_of_pos n h
 rw [Int.tmod_eq_emod_of_nonneg (by omega), Int.add_emod_right, Int.tmod_eq_emod]
 split
 · simp
 · rw [Int.sub_emod, Int.emod_eq_zero_of_dvd (Int.dvd_natAbs.2 (Int.dvd_refl m))]; simp
theorem jZ (n m : Int) (h : 0 < m) (h1 : m ≤ 4611686018427387904) : aI Tryz.prog 107 [aA n, aA m] (aA (n % m)) := by
 rw [← Ae9 h]
 have h1 := Int.lt_tmod_of_pos n h
 have h2 := Int.tmod_lt_of_pos n h
 refine bZ Tryz.tabOk aF Tryz.func107 rfl rfl ?_
 conv => whnf
 repeat' first | ((first | refine z0 ?_ | (refine zP (fun h => ?_) (fun h => ?_) <;> (try simp only [aB, aE] at h)) | refine zS ?_ | refine zV ?_ | (apply zI; refine zP aG ?_) | refine Or.inl ?_) <;> conv => whnf) | fail
 rfl
theorem D9 (n m : Int) (h : 0 < m) (h1 : m ≤ 4611686018427387904) : aI Tryz.prog 327 [aA m, aA n] (aA (n % m)) := by
 rw [← Ae9 h]
 have h1 := Int.lt_tmod_of_pos n h
 have h2 := Int.tmod_lt_of_pos n h
 refine bZ Tryz.tabOk aF Tryz.func327 rfl rfl ?_
 conv => whnf
 repeat' first | ((first | refine z0 ?_ | (refine zP (fun h => ?_) (fun h => ?_) <;> (try simp only [aB, aE] at h)) | refine zS ?_ | refine zV ?_ | (apply zI; refine zP aG ?_) | refine Or.inl ?_) <;> conv => whnf) | fail
 rfl
theorem Aku (g : Nat) (ds : List D) (p : Int → Bool) (hp : ∀ x, aI Tryz.prog g [aA x, .cptr ds 0] (bH (p x))) (o : Bool) (l : List Int) (hl : l.length ≤ 1048576) :
   aI Tryz.prog 330 [.list o 1 (ints l), (.fn (.func g) [] [.cptr ds 0])] (aA (match l.findIdx? p with | some i => i | none => -1)) := by
 refine bZ Tryz.tabOk aF Tryz.func330 rfl rfl ?_
 conv => whnf
 repeat' first | ((first | refine z0 ?_ | (refine zP (fun h => ?_) (fun h => ?_) <;> (try simp only [aB, aE] at h)) | refine zS ?_ | refine zV ?_ | (apply zI; refine zP aG ?_) | refine Or.inl ?_) <;> conv => whnf) | fail
 refine dR Tryz.tabOk aF (α := Nat) (fun i => [(7, aA l.length), (8, aA i)]) (fun i => []) (fun i => i ≤ l.length ∧ ∀ j, j < i → p (l.getD j 0) = false) (fun i => l.length - i) (0) ?_ ?_ ?_
 · exact ⟨by omega, by omega⟩
 · conv => whnf
   first | refine aH.auto ?_ | refine aC.auto ?_
   conv => whnf
   repeat' ((first | refine z1 ?_ | refine z2 ?_ | exact trivial) <;> try (conv => whnf))
 intro i hi
 conv => whnf
 repeat' first | ((first | refine z0 ?_ | (apply zI; refine zP (hp _) ?_) | (refine zP (fun h => ?_) (fun h => ?_) <;> (try simp only [aB, aE] at h)) | refine zV ?_ | (apply zI; refine zP aG ?_) | refine Or.inl ?_) <;> conv => whnf) | fail
 · refine congrArg aA ?_
   have : l.findIdx? p = some i := List.findIdx?_eq_some_iff_getElem.2 ⟨by omega, by simpa [show i < l.length by omega] using h, fun j hj => by have := hi.2 j hj; simpa [show j < l.length by omega] using this⟩
   rw [this]
 · refine Exists.intro (i + 1) (zP ⟨by omega, oR hi.2 (by assumption)⟩ (zP (by omega) ?_))
   first | refine aH.auto ?_ | refine aC.auto ?_
   conv => whnf
   repeat' ((first | refine z1 ?_ | refine z2 ?_ | exact trivial) <;> try (conv => whnf))
 · refine congrArg aA ?_
   have : l.findIdx? p = none := List.findIdx?_eq_none_iff.2 (fun x hx => by
     obtain ⟨j, hj, rfl⟩ := List.getElem_of_mem hx
     have := hi.2 j (by omega)
     simpa [hj] using this)
   rw [this]
theorem Aq6 (g : Nat) (ds : List D) (p : Int → Bool) (hp : ∀ x, aI Tryz.prog g [aA x, .cptr ds 0] (bH (p x))) (o : Bool) (l : List Int) (hl : l.length ≤ 1048576) :
   aI Tryz.prog 289 [.list o 1 (ints l), (.fn (.func g) [] [.cptr ds 0])] (bH (l.any p)) := by
 refine bZ Tryz.tabOk aF Tryz.func289 rfl rfl ?_
 conv => whnf
 repeat' first | ((first | refine z0 ?_ | (apply zI; refine zP (Aku g ds p hp o l hl) ?_) | (refine zP (fun h => ?_) (fun h => ?_) <;> (try simp only [aB, aE] at h)) | refine Or.inl ?_) <;> conv => whnf) | fail
 all_goals
   refine cD ?_
   cases e : l.findIdx? p with
   | none =>
     simp only [e] at h
     have := List.findIdx?_eq_none_iff.1 e
     simp_all
   | some i =>
     simp only [e] at h
     obtain ⟨hi, hp, _⟩ := List.findIdx?_eq_some_iff_getElem.1 e
     have : l.any p = true := List.any_eq_true.2 ⟨_, List.getElem_mem hi, hp⟩
     first | (rw [this]; done) | omega
theorem Avg (g : Nat) (ds : List D) (p : Int → Bool) (hp : ∀ x, aI Tryz.prog g [aA x, .cptr ds 0] (bH (p x))) (x : Int) :
   aI Tryz.prog 290 [aA x, .cptr [(.fn (.func g) [] [.cptr ds 0])] 0] (bH (!p x)) := by
 refine bZ Tryz.tabOk aF Tryz.func290 rfl rfl ?_
 conv => whnf
 repeat' first | ((first | refine z0 ?_ | (apply zI; refine zP (hp x) ?_) | (refine zP (fun h => ?_) (fun h => ?_) <;> (try simp only [aB, aE] at h)) | (apply zI; refine zP aG ?_) | refine Or.inl ?_) <;> conv => whnf) | fail
 all_goals (refine cD ?_; first | rfl | (simp_all []; done) | (simp_all []; omega) | (simp_all []; intros; omega))
theorem O5 (g : Nat) (ds : List D) (p : Int → Bool) (hp : ∀ x, aI Tryz.prog g [aA x, .cptr ds 0] (bH (p x))) (o : Bool) (l : List Int) (hl : l.length ≤ 1048576) :
   aI Tryz.prog 198 [.list o 1 (ints l), (.fn (.func g) [] [.cptr ds 0])] (bH (l.all p)) := by
 refine bZ Tryz.tabOk aF Tryz.func198 rfl rfl ?_
 conv => whnf
 repeat' first | ((first | refine z0 ?_ | (apply zI; refine zP (Aq6 290 [(.fn (.func g) [] [.cptr ds 0])] (fun x => !p x) (fun x => Avg g ds p hp x) o l hl) ?_) | (refine zP (fun h => ?_) (fun h => ?_) <;> (try simp only [aB, aE] at h)) | refine zV ?_ | refine Or.inl ?_) <;> conv => whnf) | fail
 all_goals
   refine cD ?_
   rw [List.all_eq_not_any_not]
   simp_all
def cX (m : Int) (l : List Int) : Bool := bB m 2 10000 && bB l.length 2 11 && gR m l
theorem A5 (o : Bool) (m : Int) (l : List Int) (hl : l.length ≤ 1048576) : aI Tryz.prog 181 [.agg [aA m, .list o 1 (ints l)]] (aA (l.length - 1)) := by
 refine bZ Tryz.tabOk aF Tryz.func181 rfl rfl ?_
 conv => whnf
 repeat' first | ((first | refine z0 ?_ | (refine zP (fun h => ?_) (fun h => ?_) <;> (try simp only [aB, aE] at h)) | refine zS ?_ | refine zV ?_ | (apply zI; refine zP aG ?_) | refine Or.inl ?_) <;> conv => whnf) | fail
 simp [aB]
theorem An8 (o : Bool) (m : Int) (l : List Int) (hl : l.length ≤ 1048576) : aI Tryz.prog 185 [.agg [aA m, .list o 1 (ints l)]] (aA (l.length - 1)) := by
 refine bZ Tryz.tabOk aF Tryz.func185 rfl rfl ?_
 conv => whnf
 repeat' first | ((first | refine z0 ?_ | (refine zP (fun h => ?_) (fun h => ?_) <;> (try simp only [aB, aE] at h)) | refine zS ?_ | refine zV ?_ | (apply zI; refine zP aG ?_) | refine Or.inl ?_) <;> conv => whnf) | fail
 simp [aB]
theorem wE (o : Bool) (m : Int) (l : List Int) (hl : l.length ≤ 1048576) : aI Tryz.prog 157 [.agg [aA m, .list o 1 (ints l)]] (bH (cX m l)) := by
 refine bZ Tryz.tabOk aF Tryz.func157 rfl rfl ?_
 conv => whnf
 repeat' first | ((first | refine z0 ?_ | (apply zI; refine zP (Ad7 _) ?_) | (apply zI; refine zP (sW _ _ _) ?_) | (apply zI; refine zP (Ac3 _ m l (wB (by assumption)) (by omega)) ?_) | (refine zP (fun h => ?_) (fun h => ?_) <;> (try simp only [aB, aE] at h)) | refine Or.inl ?_) <;> conv => whnf) | fail
 all_goals exact cD (by simp_all [cX])
theorem Ar4 (a m : Int) (d : D) (h1 : dQ .i64 (m - 1)) : aI Tryz.prog 249 [aA a, .cptr [aA m, d] 0] (bH (bB a 0 (m - 1))) := by
 refine bZ Tryz.tabOk aF Tryz.func249 rfl rfl ?_
 conv => whnf
 repeat' first | ((first | refine z0 ?_ | (apply zI; refine zP (yW _ _ h1) ?_) | (refine zP (fun h => ?_) (fun h => ?_) <;> (try simp only [aB, aE] at h)) | (apply zI; refine zP aG ?_) | refine Or.inl ?_) <;> conv => whnf) | fail
 all_goals (refine cD ?_; first | rfl | (simp_all []; done) | (simp_all []; omega) | (simp_all []; intros; omega))
theorem wT (o : Bool) (m : Int) (l : List Int) (hl : l.length ≤ 1048576) : aI Tryz.prog 153 [.agg [aA m, .list o 1 (ints l)]] (bH (cX m l)) := by
 refine bZ Tryz.tabOk aF Tryz.func153 rfl rfl ?_
 conv => whnf
 repeat' first | ((first | refine z0 ?_ | (apply zI; refine zP (S8 _) ?_) | (apply zI; refine zP (mT _ _ _) ?_) | (apply zI; refine zP (A5 _ _ _ hl) ?_) | (apply zI; refine zP (O5 249 [aA m, .list o 1 (ints l)] (fun a => bB a 0 (m - 1)) (fun a => Ar4 a m _ (wB (by assumption))) _ l hl) ?_) | (refine zP (fun h => ?_) (fun h => ?_) <;> (try simp only [aB, aE] at h)) | refine zV ?_ | refine Or.inl ?_) <;> conv => whnf) | fail
 all_goals (refine cD ?_; simp_all [cX, gR, bB])
 all_goals (intros; omega)
end Go.Proofs
namespace Go.Proofs
open Go Go.Vm Go.Fg Go.Fg.PS
set_option maxRecDepth 100000
set_option maxHeartbeats 4000000
set_option linter.unusedSimpArgs false
set_option linter.unusedVariables false
variable {m : Int}
abbrev bQ (m : Int) (o : Bool) (n : Nat) (a : PS (Zm m)) : D := .agg [aA m, .list o 1 (ints (L n a))]
theorem qF {l : List Int} {o : Bool} {n : Nat} {a : PS (Zm m)} (h : l = L n a) : D.agg [aA m, .list o 1 (ints l)] = bQ m o n a := by rw [h]
theorem sd (h : Md m) {e : Int} {z : Zm m} (h0 : 0 ≤ e) (h : Zm.mk m e = z) : D.lit (.int .i64 (e.tmod m)) = aA z.val := by rw [Zm.tmod_val h0 h]
theorem zJ (hm : Md m) (x y : Zm m) : aI Tryz.prog 215 [aA m, aA x.val, aA y.val] (aA (x * y).val) := by
 have h1 := hm.1
 have h2 := hm.2
 have h3 := hm.mul x y
 refine bZ Tryz.tabOk aF Tryz.func215 rfl rfl ?_
 conv => whnf
 repeat' first | ((first | refine z0 ?_ | (refine zP (fun h => ?_) (fun h => ?_) <;> (try simp only [aB, aE] at h)) | refine zS ?_ | refine zV ?_ | (apply zI; refine zP aG ?_) | refine Or.inl ?_) <;> conv => whnf) | fail
 · exact sd hm (by omega) (by rw [Zm.mk_mul, Zm.mk_val, Zm.mk_val])
 · omega
theorem nG (o : Bool) (n : Nat) (hn : n ≤ 100) (a : PS (Zm m)) : aI Tryz.prog 181 [bQ m o n a] (aA (n - 1)) := by
 have := A5 o m (L n a) (by simp; omega)
 simpa using this
theorem mG {d : Int} (n : Nat) (hd : d + 1 = n) (hn : n ≤ 100) : aI Tryz.prog 105 [aA m, aA d] (bQ m true n 0) := by
 refine bZ Tryz.tabOk aF Tryz.func105 rfl rfl ?_
 conv => whnf
 repeat' first | ((first | refine z0 ?_ | (refine zP (fun h => ?_) (fun h => ?_) <;> (try simp only [aB, aE] at h)) | refine zS ?_ | refine zV ?_ | (apply zI; refine zP aG ?_) | refine Or.inl ?_) <;> conv => whnf) | fail
 exact qF (by rw [fU, show (d + 1).toNat = n by omega])
theorem xH (hm : Md m) (o : Bool) (n : Nat) (hn : 1 ≤ n ∧ n ≤ 100) (a : PS (Zm m)) (c : Int) : aI Tryz.prog 106 [bQ m o n a, aA c] (bQ m true n (PS.C (Zm.mk m c))) := by
 have h1 := hm.1
 have h2 := hm.2
 refine bZ Tryz.tabOk aF Tryz.func106 rfl rfl ?_
 conv => whnf
 repeat' first | ((first | refine z0 ?_ | (apply zI; refine zP (nG _ _ aD _) ?_) | (apply zI; refine zP (mG n aD aD) ?_) | (apply zI; refine zP (jZ _ _ hm.pos (by omega)) ?_) | refine zS ?_ | refine zV ?_ | (apply zI; refine zP aG ?_) | refine Alt.fst ?_ | refine Or.inl ?_) <;> conv => whnf) | fail
 refine qF ?_
 rw [show c % m = (Zm.mk m c).val from rfl, zQ]
 exact cV (fun i hi => by rw [bY, cO]; split <;> rfl)
theorem N5 (hm : Md m) (o o' : Bool) (n : Nat) (hn : 1 ≤ n ∧ n ≤ 100) (a b : PS (Zm m)) : aI Tryz.prog 146 [bQ m o n a, bQ m o' n b] (bQ m true n (a * b)) := by
 have h1 := hm.1
 have h2 := hm.2
 refine bZ Tryz.tabOk aF Tryz.func146 rfl rfl ?_
 conv => whnf
 repeat' first | ((first | (apply zI; refine zP (nG _ _ aD _) ?_) | (apply zI; refine zP (mG n aD aD) ?_) | refine zS ?_ | refine Alt.fst ?_ | refine Or.inl ?_) <;> conv => whnf) | fail
 refine dR Tryz.tabOk aF (α := Nat) (fun i => [(18, aA i)]) (fun i => [(5, some ⟨false, 1, ints (L n (tP a b i))⟩)]) (fun i => i ≤ n) (fun i => n - i) (0) ?_ ?_ ?_
 · omega
 · conv => whnf
   first | refine aH.auto ?_ | refine aC.auto ?_
   conv => whnf
   repeat' ((first | refine z1 ?_ | refine z2 ?_ | refine zV ?_ | refine zP ?_ ?_ | exact trivial) <;> try (conv => whnf))
   all_goals rw [Acd]
 intro i hi
 conv => whnf
 repeat' first | ((first | refine z0 ?_ | (refine zP (fun h => ?_) (fun h => ?_) <;> (try simp only [aB, aE] at h)) | refine zS ?_ | refine zV ?_ | (apply zI; refine zP aG ?_) | refine Or.inl ?_) <;> conv => whnf) | fail
 · refine dR Tryz.tabOk aF (α := Nat) (fun j => [(31, aA (n - i : Nat)), (32, aA j)]) (fun j => [(5, some ⟨false, 1, ints (L n (tQ a b i j))⟩)]) (fun j => j ≤ n - i) (fun j => n - j) (0) ?_ ?_ ?_
   · omega
   · conv => whnf
     first | refine aH.auto ?_ | refine aC.auto ?_
     conv => whnf
     repeat' ((first | refine z1 ?_ | refine z2 ?_ | refine zV ?_ | refine zP ?_ ?_ | exact trivial) <;> try (conv => whnf))
     all_goals rw [Aav]
   intro j hj
   conv => whnf
   have hmul := Zm.val_range hm.pos (a.c i * b.c j)
   have hq := Zm.val_range hm.pos ((tQ a b i j).c (i + j))
   repeat' first | ((first | refine z0 ?_ | (apply zI; refine zP (zJ hm _ _) ?_) | (refine zP (fun h => ?_) (fun h => ?_) <;> (try simp only [aB, aE] at h)) | refine zS ?_ | refine zV ?_ | (apply zI; refine zP aG ?_) | refine Alt.fst ?_ | refine Or.inl ?_) <;> conv => whnf) | fail
   · refine Exists.intro (j + 1) (zP (by omega) (zP (by omega) ?_))
     first | refine aH.auto ?_ | refine aC.auto ?_
     conv => whnf
     repeat' ((first | refine z1 ?_ | refine z2 ?_ | refine zV ?_ | refine zP ?_ ?_ | exact trivial) <;> try (conv => whnf))
     rw [Z8, ← zQ, Zm.tmod_val (z := (tQ a b i j).c (i + j) + a.c i * b.c j) (by omega) (by simp only [Zm.mk_add, Zm.mk_val])]
   · refine Exists.intro (i + 1) (zP (by simp at *; omega) (zP (by simp at *; omega) ?_))
     first | refine aH.auto ?_ | refine aC.auto ?_
     conv => whnf
     repeat' ((first | refine z1 ?_ | refine z2 ?_ | refine zV ?_ | refine zP ?_ ?_ | exact trivial) <;> try (conv => whnf))
     rw [cV (Q5 a b (by omega))]
 · exact qF (cV (Ad6 a b (by simp at h; omega)))
theorem tU {l l' : List Int} (h : l = l') : ints l = ints l' := by rw [h]
theorem Ai6 (hm : Md m) (o o' : Bool) (n : Nat) (hn : 1 ≤ n ∧ n ≤ 100) (a b : PS (Zm m)) : aI Tryz.prog 233 [bQ m o n a, bQ m o' n b] (bQ m true n (a + b)) := by
 have h1 := hm.1
 have h2 := hm.2
 refine bZ Tryz.tabOk aF Tryz.func233 rfl rfl ?_
 conv => whnf
 repeat' first | ((first | (apply zI; refine zP (nG _ _ aD _) ?_) | (apply zI; refine zP (mG n aD aD) ?_) | refine zS ?_ | refine Alt.fst ?_ | refine Or.inl ?_) <;> conv => whnf) | fail
 refine dR Tryz.tabOk aF (α := Nat) (fun i => [(14, aA n), (15, aA i)]) (fun i => [(5, some ⟨false, 1, ints (L n (mix i (a + b) 0))⟩)]) (fun i => i ≤ n) (fun i => n - i) (0) ?_ ?_ ?_
 · omega
 · conv => whnf
   first | refine aH.auto ?_ | refine aC.auto ?_
   conv => whnf
   repeat' ((first | refine z1 ?_ | refine z2 ?_ | refine zV ?_ | refine zP ?_ ?_ | exact trivial) <;> try (conv => whnf))
   all_goals rw [kU]
 intro i hi
 conv => whnf
 have ha := Zm.val_range hm.pos (a.c i)
 have hb := Zm.val_range hm.pos (b.c i)
 repeat' first | ((first | refine z0 ?_ | (refine zP (fun h => ?_) (fun h => ?_) <;> (try simp only [aB, aE] at h)) | refine zS ?_ | refine zV ?_ | (apply zI; refine zP aG ?_) | refine Or.inl ?_) <;> conv => whnf) | fail
 · refine Exists.intro (i + 1) (zP (by omega) (zP (by omega) ?_))
   first | refine aH.auto ?_ | refine aC.auto ?_
   conv => whnf
   repeat' ((first | refine z1 ?_ | refine z2 ?_ | refine zV ?_ | refine zP ?_ ?_ | exact trivial) <;> try (conv => whnf))
   exact tU (dX ((a + b).c i) (Zm.tmod_val (by omega) (by simp only [Zm.mk_add, Zm.mk_val]; rfl)) (Ag.of_eq (nS _ _ _).symm))
 · exact qF (cV (fun k hk => by rw [eV, if_pos (by omega)]))
theorem Aoc (hm : Md m) (o : Bool) (n : Nat) (hn : 1 ≤ n ∧ n ≤ 100) (a : PS (Zm m)) (c : Int) : aI Tryz.prog 234 [bQ m o n a, aA c] (bQ m true n (PS.C (Zm.mk m c) * a)) := by
 have h1 := hm.1
 have h2 := hm.2
 refine bZ Tryz.tabOk aF Tryz.func234 rfl rfl ?_
 conv => whnf
 repeat' first | ((first | (apply zI; refine zP (nG _ _ aD _) ?_) | (apply zI; refine zP (mG n aD aD) ?_) | refine zS ?_ | refine Alt.fst ?_ | refine Or.inl ?_) <;> conv => whnf) | fail
 refine dR Tryz.tabOk aF (α := Nat) (fun i => [(15, aA n), (16, aA i)]) (fun i => [(4, some ⟨false, 1, ints (L n (mix i (PS.C (Zm.mk m c) * a) 0))⟩)]) (fun i => i ≤ n) (fun i => n - i) (0) ?_ ?_ ?_
 · omega
 · conv => whnf
   first | refine aH.auto ?_ | refine aC.auto ?_
   conv => whnf
   repeat' ((first | refine z1 ?_ | refine z2 ?_ | refine zV ?_ | refine zP ?_ ?_ | exact trivial) <;> try (conv => whnf))
   all_goals rw [kU]
 intro i hi
 conv => whnf
 repeat' first | ((first | refine z0 ?_ | (apply zI; refine zP (jZ _ _ hm.pos (by omega)) ?_) | (apply zI; refine zP (zJ hm (Zm.mk m c) _) ?_) | (refine zP (fun h => ?_) (fun h => ?_) <;> (try simp only [aB, aE] at h)) | refine zS ?_ | refine zV ?_ | (apply zI; refine zP aG ?_) | refine Alt.fst ?_ | refine Or.inl ?_) <;> conv => whnf) | fail
 · refine Exists.intro (i + 1) (zP (by omega) (zP (by omega) ?_))
   first | refine aH.auto ?_ | refine aC.auto ?_
   conv => whnf
   repeat' ((first | refine z1 ?_ | refine z2 ?_ | refine zV ?_ | refine zP ?_ ?_ | exact trivial) <;> try (conv => whnf))
   exact tU (dX ((PS.C (Zm.mk m c) * a).c i) (by rw [C_mul]) (Ag.of_eq (nS _ _ _).symm))
 · exact qF (cV (fun k hk => by rw [eV, if_pos (by omega)]))
theorem Aqy (hm : Md m) (o o' : Bool) (n : Nat) (hn : 1 ≤ n ∧ n ≤ 100) (a f : PS (Zm m)) : aI Tryz.prog 172 [bQ m o n a, bQ m o' n f] (bQ m true n (compN a f 0 n)) := by
 have h1 := hm.1
 have h2 := hm.2
 refine bZ Tryz.tabOk aF Tryz.func172 rfl rfl ?_
 conv => whnf
 repeat' first | ((first | (apply zI; refine zP (xH hm _ n hn _ _) ?_) | (apply zI; refine zP (nG _ _ aD _) ?_) | refine Or.inl ?_) <;> conv => whnf) | fail
 refine dR Tryz.tabOk aF (α := Nat) (fun t => [(6, aA ((n : Int) - 1 - t)), (8, .undef)]) (fun t => [(4, some ⟨false, 1, ints (L n (compN a f (n - t) t))⟩)]) (fun t => t ≤ n) (fun t => n - t) (0) ?_ ?_ ?_
 · omega
 · conv => whnf
   first | refine aH.auto ?_ | refine aC.auto ?_
   conv => whnf
   repeat' ((first | refine z1 ?_ | refine z2 ?_ | refine zV ?_ | refine zP ?_ ?_ | exact trivial) <;> try (conv => whnf))
   exact tU (cV (fun i hi => by rw [cO]; split <;> rfl))
 intro t ht
 conv => whnf
 repeat' first | ((first | refine z0 ?_ | (apply zI; refine zP (xH hm _ n hn _ _) ?_) | (apply zI; refine zP (Ai6 hm _ _ n hn _ _) ?_) | (apply zI; refine zP (N5 hm _ _ n hn _ _) ?_) | (refine zP (fun h => ?_) (fun h => ?_) <;> (try simp only [aB, aE] at h)) | refine zS ?_ | refine zV ?_ | (apply zI; refine zP aG ?_) | refine Alt.fst ?_ | refine Or.inl ?_) <;> conv => whnf) | fail
 · refine Exists.intro (t + 1) (zP (by omega) (zP (by omega) ?_))
   first | refine aH.auto ?_ | refine aC.auto ?_
   conv => whnf
   repeat' ((first | refine z1 ?_ | refine z2 ?_ | refine zV ?_ | refine zP ?_ ?_ | exact trivial) <;> try (conv => whnf))
   refine tU (cV (Ag.of_eq ?_))
   have e : (n : Int) - 1 - t = ((n - 1 - t : Nat) : Int) := by omega
   rw [e, Int.toNat_natCast]
   rw [Zm.mk_val, ← Aec, show n - (t + 1) + 1 = n - t by omega, show n - 1 - t = n - (t + 1) by omega]
 · rw [show n = t by omega]; simp
abbrev LD (o : Bool) (n : Nat) (a : PS (Zm m)) : D := .list o 1 (ints (L n a))
theorem Adc {l : List Int} {o : Bool} {n : Nat} {a : PS (Zm m)} (h : l = L n a) : D.list o 1 (ints l) = LD o n a := by rw [h]
theorem cJ {l l' : List Int} (h : l = l') : ints l = ints l' := by rw [h]
theorem wH (hm : Md m) (o o' : Bool) (n na nb : Nat) {d : Int} (hd : d + 1 = n) (hn : n ≤ 100) (h1 : n ≤ na) (h2 : n ≤ nb) (h3 : na ≤ 1048576) (h4 : nb ≤ 1048576) (a b : PS (Zm m)) :
   aI Tryz.prog 231 [aA m, LD o na a, LD o' nb b, aA d] (LD true n (a * b)) := by
 have hm1 := hm.1
 have hm2 := hm.2
 refine bZ Tryz.tabOk aF Tryz.func231 rfl rfl ?_
 conv => whnf
 repeat' first | ((first | refine z0 ?_ | (refine zP (fun h => ?_) (fun h => ?_) <;> (try simp only [aB, aE] at h)) | refine zS ?_ | refine zV ?_ | (apply zI; refine zP aG ?_) | refine Or.inl ?_) <;> conv => whnf) | fail
 refine dR Tryz.tabOk aF (α := Nat) (fun i => [(10, aA i)]) (fun i => [(0, some ⟨false, 1, ints (L n (tP a b i))⟩)]) (fun i => i ≤ n) (fun i => n - i) (0) ?_ ?_ ?_
 · omega
 · conv => whnf
   first | refine aH.auto ?_ | refine aC.auto ?_
   conv => whnf
   repeat' ((first | refine z1 ?_ | refine z2 ?_ | refine zV ?_ | refine zP ?_ ?_ | exact trivial) <;> try (conv => whnf))
   all_goals rw [Acd]
   all_goals (rw [fU, show (d + 1).toNat = n by omega])
 intro i hi
 conv => whnf
 repeat' first | ((first | refine z0 ?_ | (refine zP (fun h => ?_) (fun h => ?_) <;> (try simp only [aB, aE] at h)) | refine zS ?_ | refine zV ?_ | (apply zI; refine zP aG ?_) | refine Or.inl ?_) <;> conv => whnf) | fail
 · refine dR Tryz.tabOk aF (α := Nat) (fun j => [(11, aA j)]) (fun j => [(0, some ⟨false, 1, ints (L n (tQ a b i j))⟩)]) (fun j => j ≤ n - i) (fun j => n - j) (0) ?_ ?_ ?_
   · omega
   · conv => whnf
     first | refine aH.auto ?_ | refine aC.auto ?_
     conv => whnf
     repeat' ((first | refine z1 ?_ | refine z2 ?_ | refine zV ?_ | refine zP ?_ ?_ | exact trivial) <;> try (conv => whnf))
     all_goals rw [Aav]
   intro j hj
   conv => whnf
   have hmul := Zm.val_range hm.pos (a.c i * b.c j)
   have hmul2 := hm.mul (a.c i) (b.c j)
   have hq := Zm.val_range hm.pos ((tQ a b i j).c (i + j))
   repeat' first | ((first | refine z0 ?_ | (refine zP (fun h => ?_) (fun h => ?_) <;> (try simp only [aB, aE] at h)) | refine zS ?_ | refine zV ?_ | (apply zI; refine zP aG ?_) | refine Or.inl ?_) <;> conv => whnf) | fail
   · refine Exists.intro (j + 1) (zP (by omega) (zP (by omega) ?_))
     first | refine aH.auto ?_ | refine aC.auto ?_
     conv => whnf
     repeat' ((first | refine z1 ?_ | refine z2 ?_ | refine zV ?_ | refine zP ?_ ?_ | exact trivial) <;> try (conv => whnf))
     exact cJ (dX _ (uU hm _ _ _) (Ag.of_eq (Z8 a b i j).symm))
   all_goals
     refine Exists.intro (i + 1) (zP (by simp at *; omega) (zP (by simp at *; omega) ?_))
     first | refine aH.auto ?_ | refine aC.auto ?_
     conv => whnf
     repeat' ((first | refine z1 ?_ | refine z2 ?_ | refine zV ?_ | refine zP ?_ ?_ | exact trivial) <;> try (conv => whnf))
   · exact cJ (cV (Ag.of_eq (Asg a b i j (Zm.val_eq_zero.1 (Classical.not_not.1 (by assumption))))))
   · exact cJ (cV (Q5 a b (by omega)))
   · exact cJ (cV (Q5 a b (by simp at *; omega)))
 all_goals exact Adc (cV (Ad6 a b (by simp at *; omega)))
theorem Aq8 (hm : Md m) (o : Bool) (n na : Nat) {d : Int} (hd : d + 1 = n) (hn : 1 ≤ n ∧ n ≤ 100) (h1 : n ≤ na) (h3 : na ≤ 1048576) (a : PS (Zm m)) (u : Zm m) (hu : aI Tryz.prog 299 [aA m, aA (a.c 0).val] (aA u.val)) :
   aI Tryz.prog 232 [aA m, LD o na a, aA d] (LD true n (inv u a)) := by
 have hm1 := hm.1
 have hm2 := hm.2
 refine bZ Tryz.tabOk aF Tryz.func232 rfl rfl ?_
 conv => whnf
 repeat' first | ((first | (apply zI; refine zP (hu) ?_) | refine zV ?_ | (apply zI; refine zP aG ?_) | refine Or.inl ?_) <;> conv => whnf) | fail
 refine dR Tryz.tabOk aF (α := Nat) (fun t => [(9, aA ((t : Int) + 1)), (8, .ref 1 [] 1 0 (t + 1)), (18, .undef)]) (fun t => [(1, some ⟨false, 1, ints (L (t + 1) (inv u a))⟩)]) (fun t => t + 1 ≤ n) (fun t => n - t) (0) ?_ ?_ ?_
 · omega
 · conv => whnf
   first | refine aH.auto ?_ | refine aC.auto ?_
   conv => whnf
   repeat' ((first | refine z1 ?_ | refine z2 ?_ | refine zV ?_ | refine zP ?_ ?_ | exact trivial) <;> try (conv => whnf))
 intro t ht
 conv => whnf
 repeat' first | ((first | refine z0 ?_ | (refine zP (fun h => ?_) (fun h => ?_) <;> (try simp only [aB, aE] at h)) | refine zS ?_ | refine zV ?_ | (apply zI; refine zP aG ?_) | refine Or.inl ?_) <;> conv => whnf) | fail
 · refine dR Tryz.tabOk aF (α := Nat) (fun q => [(10, aA (sm q (fun j => a.c (j + 1) * (inv u a).c (t - j))).val), (11, aA ((q : Int) + 1))]) (fun q => []) (fun q => q ≤ t + 1) (fun q => t + 1 - q) (0) ?_ ?_ ?_
   · omega
   · conv => whnf
     first | refine aH.auto ?_ | refine aC.auto ?_
     conv => whnf
     repeat' ((first | refine z1 ?_ | refine z2 ?_ | refine zV ?_ | refine zP ?_ ?_ | exact trivial) <;> try (conv => whnf))
   intro q hq
   conv => whnf
   repeat' first | ((first | refine z0 ?_ | (refine zP (fun h => ?_) (fun h => ?_) <;> (try simp only [aB, aE] at h)) | refine zS ?_ | refine zV ?_ | (apply zI; refine zP aG ?_) | refine Or.inl ?_) <;> conv => whnf) | fail
   · refine Exists.intro (q + 1) (zP (by omega) (zP (by omega) ?_))
     first | refine aH.auto ?_ | refine aC.auto ?_
     conv => whnf
     repeat' ((first | refine z1 ?_ | refine z2 ?_ | refine zV ?_ | refine zP ?_ ?_ | exact trivial) <;> try (conv => whnf))
     rw [uU hm, bF]
   · exact absurd (by assumption) (show ¬ ¬ (q : Int) + 1 < ((L na a).length : Nat) by simp; omega)
   · have hqt : q = t + 1 := by omega
     refine Exists.intro (t + 1) (zP (by omega) (zP (by omega) ?_))
     first | refine aH.auto ?_ | refine aC.auto ?_
     conv => whnf
     repeat' ((first | refine z1 ?_ | refine z2 ?_ | refine zV ?_ | refine zP ?_ ?_ | exact trivial) <;> try (conv => whnf))
     refine cJ (oJ ?_)
     rw [hqt, N0 hm, ← Afx, ← Ac7]
 · rw [show t + 1 = n by omega]
theorem Aoq (hm : Md m) (o o' : Bool) (n na nb : Nat) {d : Int} (hd : d + 1 = n) (hn : 1 ≤ n ∧ n ≤ 100) (h1 : n ≤ na) (h2 : n ≤ nb) (h3 : na ≤ 1048576) (h4 : nb ≤ 1048576) (a f : PS (Zm m)) :
   aI Tryz.prog 306 [aA m, LD o na a, LD o' nb f, aA d] (LD true n (compN a f 0 n)) := by
 have hm1 := hm.1
 have hm2 := hm.2
 refine bZ Tryz.tabOk aF Tryz.func306 rfl rfl ?_
 conv => whnf
 repeat' first | ((first | refine z0 ?_ | (refine zP (fun h => ?_) (fun h => ?_) <;> (try simp only [aB, aE] at h)) | refine zS ?_ | refine zV ?_ | (apply zI; refine zP aG ?_) | refine Or.inl ?_) <;> conv => whnf) | fail
 refine dR Tryz.tabOk aF (α := Nat) (fun t => [(10, aA ((n : Int) - 1 - t)), (9, .ref 0 [] 1 0 n), (13, .undef)]) (fun t => [(0, some ⟨false, 1, ints (L n (compN a f (n - t) t))⟩)]) (fun t => t ≤ n) (fun t => n - t) (0) ?_ ?_ ?_
 · omega
 · conv => whnf
   first | refine aH.auto ?_ | refine aC.auto ?_
   conv => whnf
   repeat' ((first | refine z1 ?_ | refine z2 ?_ | refine zV ?_ | refine zP ?_ ?_ | exact trivial) <;> try (conv => whnf))
   rw [show (d + 1).toNat = n by omega, ← fU (m := m)]
   rfl
 intro t ht
 conv => whnf
 repeat' first | ((first | refine z0 ?_ | (apply zI; refine zP (wH hm _ _ n n nb hd (by omega) (by omega) (by omega) (by omega) (by omega) _ _) ?_) | (refine zP (fun h => ?_) (fun h => ?_) <;> (try simp only [aB, aE] at h)) | refine zS ?_ | refine zV ?_ | (apply zI; refine zP aG ?_) | refine Or.inl ?_) <;> conv => whnf) | fail
 · refine Exists.intro (t + 1) (zP (by omega) (zP (by omega) ?_))
   first | refine aH.auto ?_ | refine aC.auto ?_
   conv => whnf
   repeat' ((first | refine z1 ?_ | refine z2 ?_ | refine zV ?_ | refine zP ?_ ?_ | exact trivial) <;> try (conv => whnf))
   have e : (n : Int) - 1 - t = ((n - 1 - t : Nat) : Int) := by omega
   refine cJ ?_
   rw [e, Int.toNat_natCast, vK hm]
   refine dX _ rfl (Ag.of_eq ?_)
   rw [show n - (t + 1) = n - 1 - t by omega, ← Aec, show n - 1 - t + 1 = n - t by omega]
   ext k
   rw [bY, add_c, cO]
   split
   · rename_i hk; subst hk; rfl
   · exact (Go.Fg.add_zero _).symm
 · rw [show n = t by omega]; simp
theorem Ams (hm : Md m) (o : Bool) (n na : Nat) {d : Int} (hd : d + 1 = n) (hn : 2 ≤ n ∧ n ≤ 100) (h1 : n ≤ na) (h3 : na ≤ 1048576) (a : PS (Zm m)) (u : Zm m) (hu : aI Tryz.prog 299 [aA m, aA (a.c 1).val] (aA u.val)) :
   aI Tryz.prog 246 [aA m, LD o na a, aA d] (LD true n (rev u a)) := by
 have hm1 := hm.1
 have hm2 := hm.2
 refine bZ Tryz.tabOk aF Tryz.func246 rfl rfl ?_
 conv => whnf
 repeat' first | ((first | (apply zI; refine zP (hu) ?_) | refine zV ?_ | (apply zI; refine zP aG ?_) | refine Or.inl ?_) <;> conv => whnf) | fail
 refine dR Tryz.tabOk aF (α := Nat) (fun t => [(9, aA ((t : Int) + 2)), (7, .ref 0 [] 1 0 n), (13, .undef), (19, .undef), (21, .undef)]) (fun t => [(0, some ⟨false, 1, ints (L n (eX u a (t + 1)))⟩)]) (fun t => t + 2 ≤ n) (fun t => n - t) (0) ?_ ?_ ?_
 · omega
 · conv => whnf
   first | refine aH.auto ?_ | refine aC.auto ?_
   conv => whnf
   repeat' ((first | refine z1 ?_ | refine z2 ?_ | refine zV ?_ | refine zP ?_ ?_ | exact trivial) <;> try (conv => whnf))
   rw [show (d + 1).toNat = n by omega, ← fU (m := m)]
   exact cJ (dX u rfl (fun i hi => rfl))
 intro t ht
 conv => whnf
 repeat' first | ((first | refine z0 ?_ | (apply zI; refine zP (Aoq hm _ _ (t + 3) na n (by omega) (by omega) (by omega) (by omega) (by omega) (by omega) _ _) ?_) | (refine zP (fun h => ?_) (fun h => ?_) <;> (try simp only [aB, aE] at h)) | refine zV ?_ | (apply zI; refine zP aG ?_) | refine Or.inl ?_) <;> conv => whnf) | fail
 · refine Exists.intro (t + 1) (zP (by omega) (zP (by omega) ?_))
   first | refine aH.auto ?_ | refine aC.auto ?_
   conv => whnf
   repeat' ((first | refine z1 ?_ | refine z2 ?_ | refine zV ?_ | refine zP ?_ ?_ | exact trivial) <;> try (conv => whnf))
   refine cJ (dX _ (N0 hm _ _) (Ag.of_eq ?_))
   rw [zL u a (t + 1) (by omega), Adi (Ahp u a _) (show t + 1 + 1 < t + 3 by omega)]
   rfl
 · exact Adc (cV ((Age u a (t + 1)).le (by omega)))
abbrev dO (m : Int) (o p : Bool) (n : Nat) (f : PS (PS (Zm m))) : D := .agg [aA m, .list o 1 (rows p (Tb n f))]
abbrev dK (o p : Bool) (n : Nat) (f : PS (PS (Zm m))) : D := .list o 1 (rows p (Tb n f))
theorem wY {t : List (List Int)} {o p : Bool} {n : Nat} {f : PS (PS (Zm m))} (h : t = Tb n f) : D.agg [aA m, .list o 1 (rows p t)] = dO m o p n f := by rw [h]
theorem sI {t : List (List Int)} {o p : Bool} {n : Nat} {f : PS (PS (Zm m))} (h : t = Tb n f) : D.list o 1 (rows p t) = dK o p n f := by rw [h]
theorem nW (o p : Bool) (n : Nat) (hn : n ≤ 100) (f : PS (PS (Zm m))) : aI Tryz.prog 124 [dO m o p n f] (aA (n - 1)) := by
 refine bZ Tryz.tabOk aF Tryz.func124 rfl rfl ?_
 conv => whnf
 repeat' first | ((first | refine z0 ?_ | (refine zP (fun h => ?_) (fun h => ?_) <;> (try simp only [aB, aE] at h)) | refine zS ?_ | refine zV ?_ | (apply zI; refine zP aM ?_) | (apply zI; refine zP aG ?_) | refine zA ?_ | refine Alt.fst ?_ | refine Or.inl ?_) <;> conv => whnf) | fail
 simp [aB]
theorem Abc (n : Nat) : List.replicate n 0 = L n (0 : PS (Zm m)) := (fU n).symm
theorem P7 {d : Int} (n : Nat) (hd : d + 1 = n) (hn : n ≤ 100) : aI Tryz.prog 214 [aA m, aA d] (dO m true true n (0 : PS (PS (Zm m)))) := by
 refine bZ Tryz.tabOk aF Tryz.func214 rfl rfl ?_
 conv => whnf
 repeat' first | ((first | refine z0 ?_ | (refine zP (fun h => ?_) (fun h => ?_) <;> (try simp only [aB, aE] at h)) | refine zS ?_ | refine zV ?_ | (apply zI; refine zP aM ?_) | (apply zI; refine zP aG ?_) | refine zA ?_ | refine Alt.fst ?_ | refine Or.inl ?_) <;> conv => whnf) | fail
 refine dR Tryz.tabOk aF (α := Nat) (fun i => [(11, aA i)]) (fun i => [(1, some ⟨true, 1, [aA m, .ref 2 [] 1 0 i]⟩), (2, some ⟨false, 1, rows true (lV n i (0 : PS (PS (Zm m))))⟩)]) (fun i => i ≤ n) (fun i => n - i) (0) ?_ ?_ ?_
 · omega
 · conv => whnf
   first | refine aH.auto ?_ | refine aC.auto ?_
   conv => whnf
   repeat' ((first | refine z1 ?_ | refine z2 ?_ | refine zV ?_ | refine zP ?_ ?_ | exact trivial) <;> try (conv => whnf))
 intro i hi
 conv => whnf
 repeat' first | ((first | refine z0 ?_ | (refine zP (fun h => ?_) (fun h => ?_) <;> (try simp only [aB, aE] at h)) | refine zS ?_ | refine zV ?_ | (apply zI; refine zP aM ?_) | (apply zI; refine zP aG ?_) | refine zA ?_ | refine Alt.fst ?_ | refine Or.inl ?_) <;> conv => whnf) | fail
 · refine Exists.intro (i + 1) (zP (by omega) (zP (by omega) ?_))
   first | refine aH.auto ?_ | refine aC.auto ?_
   conv => whnf
   repeat' ((first | refine z1 ?_ | refine z2 ?_ | refine zV ?_ | refine zP ?_ ?_ | exact trivial) <;> try (conv => whnf))
   exact cC (Adr (by rw [Abc, show (d + 1 - (i : Int)).toNat = n - i by omega]; rfl))
 · exact wY (by rw [show i = n by omega, Afz])
theorem mZ {d : Int} (n : Nat) (hd : d + 1 = n) (hn : n ≤ 100) : aI Tryz.prog 217 [aA d] (dK true true n (0 : PS (PS (Zm m)))) := by
 refine bZ Tryz.tabOk aF Tryz.func217 rfl rfl ?_
 conv => whnf
 repeat' first | ((first | refine z0 ?_ | (refine zP (fun h => ?_) (fun h => ?_) <;> (try simp only [aB, aE] at h)) | refine zS ?_ | refine zV ?_ | (apply zI; refine zP aM ?_) | (apply zI; refine zP aG ?_) | refine zA ?_ | refine Alt.fst ?_ | refine Or.inl ?_) <;> conv => whnf) | fail
 refine dR Tryz.tabOk aF (α := Nat) (fun i => [(3, .ref 0 [] 1 0 i), (4, aA i), (5, .undef)]) (fun i => [(0, some ⟨false, 1, rows true (lV n i (0 : PS (PS (Zm m))))⟩)]) (fun i => i ≤ n) (fun i => n - i) (0) ?_ ?_ ?_
 · omega
 · conv => whnf
   first | refine aH.auto ?_ | refine aC.auto ?_
   conv => whnf
   repeat' ((first | refine z1 ?_ | refine z2 ?_ | refine zV ?_ | refine zP ?_ ?_ | exact trivial) <;> try (conv => whnf))
 intro i hi
 conv => whnf
 repeat' first | ((first | refine z0 ?_ | (refine zP (fun h => ?_) (fun h => ?_) <;> (try simp only [aB, aE] at h)) | refine zS ?_ | refine zV ?_ | (apply zI; refine zP aM ?_) | (apply zI; refine zP aG ?_) | refine zA ?_ | refine Alt.fst ?_ | refine Or.inl ?_) <;> conv => whnf) | fail
 · refine Exists.intro (i + 1) (zP (by omega) (zP (by omega) ?_))
   first | refine aH.auto ?_ | refine aC.auto ?_
   conv => whnf
   repeat' ((first | refine z1 ?_ | refine z2 ?_ | refine zV ?_ | refine zP ?_ ?_ | exact trivial) <;> try (conv => whnf))
   exact cC (Adr (by rw [Abc, show (d - (i : Int) + 1).toNat = n - i by omega]; rfl))
 · exact sI (by rw [show i = n by omega, Afz])
theorem Ane (hm : Md m) (o p : Bool) (n : Nat) (hn : 1 ≤ n ∧ n ≤ 100) (f : PS (PS (Zm m))) (c : Int) : aI Tryz.prog 102 [dO m o p n f, aA c] (dO m true true n (PS.C (PS.C (Zm.mk m c)))) := by
 have hm1 := hm.1
 have hm2 := hm.2
 refine bZ Tryz.tabOk aF Tryz.func102 rfl rfl ?_
 conv => whnf
 repeat' first | ((first | refine z0 ?_ | (apply zI; refine zP (nW _ _ _ aD _) ?_) | (apply zI; refine zP (P7 n aD aD) ?_) | (apply zI; refine zP (jZ _ _ hm.pos (by omega)) ?_) | refine zS ?_ | refine zV ?_ | (apply zI; refine zP aM ?_) | (apply zI; refine zP aG ?_) | refine zA ?_ | refine Alt.fst ?_ | refine Or.inl ?_) <;> conv => whnf) | fail
 refine wY (fM (Zm.mk m c) rfl (by omega) (fun i j hij => ?_))
 rw [H7, cO]
 by_cases h : i = 0
 · rw [if_pos h, cO]
   by_cases h2 : j = 0
   · rw [if_pos ⟨h, h2⟩, if_pos h2]
   · rw [if_neg (fun x => h2 x.2), if_neg h2]; rfl
 · rw [if_neg (fun x => h x.1), if_neg h]; rfl
theorem Ajf (hm : Md m) (o p o' p' : Bool) (n : Nat) (hn : 1 ≤ n ∧ n ≤ 100) (f g : PS (PS (Zm m))) : aI Tryz.prog 94 [dO m o p n f, dO m o' p' n g] (dO m true true n (f * g)) := by
 have hm1 := hm.1
 have hm2 := hm.2
 refine bZ Tryz.tabOk aF Tryz.func94 rfl rfl ?_
 conv => whnf
 repeat' first | ((first | (apply zI; refine zP (nW _ _ _ aD _) ?_) | (apply zI; refine zP (P7 n aD aD) ?_) | refine zS ?_ | refine Alt.fst ?_ | refine Or.inl ?_) <;> conv => whnf) | fail
 refine dR Tryz.tabOk aF (α := Nat) (fun i => [(24, aA i)]) (fun i => [(5, some ⟨false, 1, rows true (Tb n (pP f g i 0))⟩)]) (fun i => i ≤ n) (fun i => n - i) (0) ?_ ?_ ?_
 · omega
 · conv => whnf
   first | refine aH.auto ?_ | refine aC.auto ?_
   conv => whnf
   repeat' ((first | refine z1 ?_ | refine z2 ?_ | refine zV ?_ | refine zP ?_ ?_ | exact trivial) <;> try (conv => whnf))
   all_goals rw [Z1]
 intro i hi
 conv => whnf
 repeat' first | ((first | refine z0 ?_ | (refine zP (fun h => ?_) (fun h => ?_) <;> (try simp only [aB, aE] at h)) | refine zS ?_ | refine zV ?_ | (apply zI; refine zP aM ?_) | (apply zI; refine zP aG ?_) | refine zA ?_ | refine Alt.fst ?_ | refine Or.inl ?_) <;> conv => whnf) | fail
 · refine dR Tryz.tabOk aF (α := Nat) (fun j => [(31, aA j)]) (fun j => [(5, some ⟨false, 1, rows true (Tb n (pP f g i j))⟩)]) (fun j => j ≤ n - i) (fun j => n - j) (0) ?_ ?_ ?_
   · omega
   · conv => whnf
     first | refine aH.auto ?_ | refine aC.auto ?_
     conv => whnf
     repeat' ((first | refine z1 ?_ | refine z2 ?_ | refine zV ?_ | refine zP ?_ ?_ | exact trivial) <;> try (conv => whnf))
   intro j hj
   conv => whnf
   repeat' first | ((first | refine z0 ?_ | (refine zP (fun h => ?_) (fun h => ?_) <;> (try simp only [aB, aE] at h)) | refine zS ?_ | refine zV ?_ | (apply zI; refine zP aM ?_) | (apply zI; refine zP aG ?_) | refine zA ?_ | refine Alt.fst ?_ | refine Or.inl ?_) <;> conv => whnf) | fail
   · refine Exists.intro (j + 1) (zP aD (zP aD ?_))
     first | refine aH.auto ?_ | refine aC.auto ?_
     conv => whnf
     repeat' ((first | refine z1 ?_ | refine z2 ?_ | refine zV ?_ | refine zP ?_ ?_ | exact trivial) <;> try (conv => whnf))
     rw [Abx f g i j (Zm.val_eq_zero.1 (by assumption))]
   · refine dR Tryz.tabOk aF (α := Nat) (fun k => [(11, aA k)]) (fun k => [(5, some ⟨false, 1, rows true (Tb n (pQ f g i j k 0))⟩)]) (fun k => i + j + k ≤ n) (fun k => n - k) (0) ?_ ?_ ?_
     · exact aD
     · conv => whnf
       first | refine aH.auto ?_ | refine aC.auto ?_
       conv => whnf
       repeat' ((first | refine z1 ?_ | refine z2 ?_ | refine zV ?_ | refine zP ?_ ?_ | exact trivial) <;> try (conv => whnf))
       all_goals rw [Abz]
     intro k hk
     conv => whnf
     repeat' first | ((first | refine z0 ?_ | (refine zP (fun h => ?_) (fun h => ?_) <;> (try simp only [aB, aE] at h)) | refine zS ?_ | refine zV ?_ | (apply zI; refine zP aM ?_) | (apply zI; refine zP aG ?_) | refine zA ?_ | refine Alt.fst ?_ | refine Or.inl ?_) <;> conv => whnf) | fail
     · refine dR Tryz.tabOk aF (α := Nat) (fun l => [(62, aA l)]) (fun l => [(5, some ⟨false, 1, rows true (Tb n (pQ f g i j k l))⟩)]) (fun l => i + j + k + l ≤ n) (fun l => n - l) (0) ?_ ?_ ?_
       · exact aD
       · conv => whnf
         first | refine aH.auto ?_ | refine aC.auto ?_
         conv => whnf
         repeat' ((first | refine z1 ?_ | refine z2 ?_ | refine zV ?_ | refine zP ?_ ?_ | exact trivial) <;> try (conv => whnf))
       intro l hll
       conv => whnf
       have hx1 := Zm.val_range hm.pos (((pQ f g i j k l).c (i + k)).c (j + l))
       have hx2 := Zm.val_range hm.pos ((f.c i).c j * (g.c k).c l)
       repeat' first | ((first | (apply zI; refine zP (zJ hm _ _) ?_) | (refine zP (fun h => ?_) (fun h => ?_) <;> (try simp only [aB, aE] at h)) | refine zS ?_ | refine zV ?_ | (apply zI; refine zP aM ?_) | (apply zI; refine zP aG ?_) | refine Alt.fst ?_ | refine Or.inl ?_) <;> conv => whnf) | fail
       · refine Exists.intro (l + 1) (zP aD (zP aD ?_))
         first | refine aH.auto ?_ | refine aC.auto ?_
         conv => whnf
         repeat' ((first | refine z1 ?_ | refine z2 ?_ | refine zV ?_ | refine zP ?_ ?_ | exact trivial) <;> try (conv => whnf))
         exact cC (fM _ (vK hm _ _) aD (aW.of_eq (Ai1 f g i j k l).symm))
       · refine Exists.intro (k + 1) (zP aD (zP aD ?_))
         first | refine aH.auto ?_ | refine aC.auto ?_
         conv => whnf
         repeat' ((first | refine z1 ?_ | refine z2 ?_ | refine zV ?_ | refine zP ?_ ?_ | exact trivial) <;> try (conv => whnf))
         exact cC (jW (Aa4 f g aD))
     · refine Exists.intro (j + 1) (zP aD (zP aD ?_))
       first | refine aH.auto ?_ | refine aC.auto ?_
       conv => whnf
       repeat' ((first | refine z1 ?_ | refine z2 ?_ | refine zV ?_ | refine zP ?_ ?_ | exact trivial) <;> try (conv => whnf))
       exact cC (jW (Afe f g aD))
   · refine Exists.intro (i + 1) (zP aD (zP aD ?_))
     first | refine aH.auto ?_ | refine aC.auto ?_
     conv => whnf
     repeat' ((first | refine z1 ?_ | refine z2 ?_ | refine zV ?_ | refine zP ?_ ?_ | exact trivial) <;> try (conv => whnf))
     exact cC (jW (Ai7 f g aD))
 · exact wY (jW (Ab7 f g aD))
end Go.Proofs
namespace Go.Proofs
open Go Go.Vm Go.Fg Go.Fg.PS
set_option maxRecDepth 100000
set_option maxHeartbeats 4000000
set_option linter.unusedSimpArgs false
set_option linter.unusedVariables false
theorem Ady (a b : Nat) : ((a : Int)).tdiv (b : Int) = ((a / b : Nat) : Int) := by
 rw [Int.tdiv_eq_ediv_of_nonneg (by omega)]; rfl
theorem Avc (e : Eu) : ((e.r / e.s : Nat) : Int) * (e.s : Int) = ((e.r / e.s * e.s : Nat) : Int) := by rw [Int.natCast_mul]
theorem Amc (e : Eu) : e.r / e.s * e.s ≤ e.r := Nat.div_mul_le_self _ _
theorem Awu (e : Eu) : ((e.r / e.s : Nat) : Int) * e.Y = sg (!e.b) (e.r / e.s * e.y) := by
 unfold Eu.Y
 cases e.b
 · simp only [sg, Bool.not_false, if_true, Int.natCast_mul]
 · simp only [sg, Bool.not_true, Bool.false_eq_true, if_false, Int.natCast_mul, Int.mul_neg]
theorem Ahm {m : Int} (hm : Md m) {e : Eu} (he : e.Ok m.toNat) (hs : e.s ≠ 0) :
   dQ .i64 ((e.r / e.s : Nat) : Int) ∧ dQ .i64 (((e.r / e.s : Nat) : Int) * e.s) ∧ dQ .i64 ((e.r : Int) - ((e.r / e.s : Nat) : Int) * e.s) ∧ dQ .i64 (((e.r / e.s : Nat) : Int) * e.Y) ∧ dQ .i64 (e.X - ((e.r / e.s : Nat) : Int) * e.Y) := by
 have h1 := hm.1
 have h2 := hm.2
 have h3 := he.2.2.1
 have h4 := Eu.qy_le he hs
 have h5 := Eu.x_le he hs
 have h6 := Amc e
 have h7 : e.r / e.s ≤ e.r := Nat.div_le_self _ _
 have h8 := Abi (!e.b) (e.r / e.s * e.y)
 have h9 := Abi e.b e.x
 rw [Avc, Awu]
 unfold Eu.X
 generalize sg (!e.b) (e.r / e.s * e.y) = A at *
 generalize sg e.b e.x = B at *
 generalize e.r / e.s * e.y = C at *
 generalize e.r / e.s * e.s = E at *
 generalize e.r / e.s = q at *
 exact ⟨eJ (by omega) (by omega), eJ (by omega) (by omega), eJ (by omega) (by omega), eJ (by omega) (by omega), eJ (by omega) (by omega)⟩
theorem Agr {m a : Int} {e : Eu} (hr : e.run = (qK m a).run) (hs : e.s = 0) : e.X % m = (bA m a).val := by
 rw [Eu.run_zero hs] at hr
 unfold bA
 rw [Zm.val_mk, hr]
theorem Axd {m : Int} (hm : Md m) (a : Int) : aI Tryz.prog 220 [aA m, aA a] (aA (bA m a).val) := by
 have hm1 := hm.1
 have hm2 := hm.2
 have ha := Int.emod_nonneg a (show m ≠ 0 by omega)
 have ha2 := Int.emod_lt_of_pos a (show 0 < m by omega)
 refine bZ Tryz.tabOk aF Tryz.func220 rfl rfl ?_
 conv => whnf
 repeat' first | ((first | refine z0 ?_ | (apply zI; refine zP (jZ _ _ hm.pos (by omega)) ?_) | (refine zP (fun h => ?_) (fun h => ?_) <;> (try simp only [aB, aE] at h)) | refine zV ?_ | refine Or.inl ?_) <;> conv => whnf) | fail
 refine dR Tryz.tabOk aF (α := Eu) (fun e => [(5, aA e.X), (6, aA e.Y), (7, aA e.r), (8, aA e.s)]) (fun e => []) (fun e => e.Ok m.toNat ∧ e.run = (qK m a).run) (fun e => e.s) (qK m a) ?_ ?_ ?_
 · exact ⟨Ab3 hm.1, rfl⟩
 · conv => whnf
   first | refine aH.auto ?_ | refine aC.auto ?_
   conv => whnf
   repeat' ((first | refine z1 ?_ | refine zP ?_ ?_ | exact trivial) <;> try (conv => whnf))
   · show m = ((m.toNat : Nat) : Int); omega
   · show a % m = (((a % m).toNat : Nat) : Int); omega
 intro e ⟨he, hr⟩
 conv => whnf
 repeat' first | ((first | refine z0 ?_ | (apply zI; refine zP (jZ _ _ hm.pos (by omega)) ?_) | (refine zP (fun h => ?_) (fun h => ?_) <;> (try simp only [aB, aE] at h)) | refine zV ?_ | refine Or.inl ?_) <;> conv => whnf) | fail
 · have hs : e.s ≠ 0 := by omega
   obtain ⟨f1, f2, f3, f4, f5⟩ := Ahm hm he hs
   rw [Ady]
   repeat' first | ((first | refine z0 ?_ | (apply zI; refine zP (jZ _ _ hm.pos (by omega)) ?_) | (refine zP (fun h => ?_) (fun h => ?_) <;> (try simp only [aB, aE] at h)) | refine zV ?_ | refine Or.inl ?_) <;> conv => whnf) | fail
   refine Exists.intro e.next (zP ⟨Eu.next_ok he hs, (Eu.run_next hs).trans hr⟩ (zP (Eu.next_lt e hs) ?_))
   first | refine aH.auto ?_ | refine aC.auto ?_
   conv => whnf
   repeat' ((first | refine z1 ?_ | refine zP ?_ ?_ | exact trivial) <;> try (conv => whnf))
   all_goals first | exact (Eu.next_Y e).symm | exact (Eu.next_s e).symm
 · exact congrArg aA (Agr hr (by omega))
theorem I9 {m : Int} (hm : Md m) (a : Int) : aI Tryz.prog 299 [aA m, aA a] (aA (bA m a).val) := by
 have hm1 := hm.1
 have hm2 := hm.2
 have ha := Int.emod_nonneg a (show m ≠ 0 by omega)
 have ha2 := Int.emod_lt_of_pos a (show 0 < m by omega)
 refine bZ Tryz.tabOk aF Tryz.func299 rfl rfl ?_
 conv => whnf
 repeat' first | ((first | refine z0 ?_ | (apply zI; refine zP (D9 _ _ hm.pos (by omega)) ?_) | (refine zP (fun h => ?_) (fun h => ?_) <;> (try simp only [aB, aE] at h)) | refine zV ?_ | refine Or.inl ?_) <;> conv => whnf) | fail
 refine dR Tryz.tabOk aF (α := Eu) (fun e => [(7, aA e.X), (8, aA e.Y), (5, aA e.r), (6, aA e.s)]) (fun e => []) (fun e => e.Ok m.toNat ∧ e.run = (qK m a).run) (fun e => e.s) (qK m a) ?_ ?_ ?_
 · exact ⟨Ab3 hm.1, rfl⟩
 · conv => whnf
   first | refine aH.auto ?_ | refine aC.auto ?_
   conv => whnf
   repeat' ((first | refine z1 ?_ | refine zP ?_ ?_ | exact trivial) <;> try (conv => whnf))
   · show m = ((m.toNat : Nat) : Int); omega
   · show a % m = (((a % m).toNat : Nat) : Int); omega
 intro e ⟨he, hr⟩
 conv => whnf
 repeat' first | ((first | refine z0 ?_ | (apply zI; refine zP (D9 _ _ hm.pos (by omega)) ?_) | (refine zP (fun h => ?_) (fun h => ?_) <;> (try simp only [aB, aE] at h)) | refine zV ?_ | refine Or.inl ?_) <;> conv => whnf) | fail
 · have hs : e.s ≠ 0 := by omega
   obtain ⟨f1, f2, f3, f4, f5⟩ := Ahm hm he hs
   rw [Ady]
   repeat' first | ((first | refine z0 ?_ | (apply zI; refine zP (D9 _ _ hm.pos (by omega)) ?_) | (refine zP (fun h => ?_) (fun h => ?_) <;> (try simp only [aB, aE] at h)) | refine zV ?_ | refine Or.inl ?_) <;> conv => whnf) | fail
   refine Exists.intro e.next (zP ⟨Eu.next_ok he hs, (Eu.run_next hs).trans hr⟩ (zP (Eu.next_lt e hs) ?_))
   first | refine aH.auto ?_ | refine aC.auto ?_
   conv => whnf
   repeat' ((first | refine z1 ?_ | refine zP ?_ ?_ | exact trivial) <;> try (conv => whnf))
   all_goals first | exact (Eu.next_Y e).symm | exact (Eu.next_s e).symm
 · exact congrArg aA (Agr hr (by omega))
end Go.Proofs
namespace Go.Proofs
open Go Go.Vm Go.Fg
set_option maxRecDepth 100000
set_option maxHeartbeats 4000000
set_option linter.unusedSimpArgs false
set_option linter.unusedVariables false
end Go.Proofs
namespace Go.Proofs
open Go Go.Vm Go.Fg Go.Fg.PS
set_option maxRecDepth 100000
set_option maxHeartbeats 4000000
set_option linter.unusedSimpArgs false
set_option linter.unusedVariables false
variable {m : Int}
def T2 : D := .agg [aA 0, .lit (.slice none 0 0)]
def cP (m : Int) (n : Nat) (a : PS (Zm m)) (code : Int) : D := if code = 0 then .tup [bQ m true n a, aA 0] else .tup [T2, aA code]
theorem vX : J4 Tryz.prog 119 := fun m b n c => by
 refine bZ Tryz.tabOk aF Tryz.func119 rfl rfl ?_
 conv => whnf
 repeat' first | ((first | refine z0 ?_ | (refine zP (fun h => ?_) (fun h => ?_) <;> (try simp only [aB, aE] at h)) | refine zS ?_ | refine zV ?_ | (apply zI; refine zP aG ?_) | refine Or.inl ?_) <;> conv => whnf) | fail
def yP (m : Int) (l : List Int) : Int := if bB m 2 10000 then (if gR m l then 0 else 2) else 1
theorem Akl (a m : Int) (h1 : dQ .i64 (m - 1)) : aI Tryz.prog 278 [aA a, .cptr [aA m] 0] (bH (bB a 0 (m - 1))) := by
 refine bZ Tryz.tabOk aF Tryz.func278 rfl rfl ?_
 conv => whnf
 repeat' first | ((first | refine z0 ?_ | (apply zI; refine zP (yW _ _ h1) ?_) | (refine zP (fun h => ?_) (fun h => ?_) <;> (try simp only [aB, aE] at h)) | (apply zI; refine zP aG ?_) | refine Or.inl ?_) <;> conv => whnf) | fail
 all_goals (refine cD ?_; first | rfl | (simp_all []; done) | (simp_all []; omega) | (simp_all []; intros; omega))
theorem Auf (o : Bool) (m : Int) (l : List Int) (hl : l.length ≤ 1048576) : aI Tryz.prog 186 [aA m, .list o 1 (ints l)] (aA (yP m l)) := by
 refine bZ Tryz.tabOk aF Tryz.func186 rfl rfl ?_
 conv => whnf
 repeat' first | ((first | refine z0 ?_ | (apply zI; refine zP (S8 _) ?_) | (apply zI; refine zP (O5 278 [aA m] (fun a => bB a 0 (m - 1)) (fun a => Akl a m (wB (by assumption))) _ l hl) ?_) | (refine zP (fun h => ?_) (fun h => ?_) <;> (try simp only [aB, aE] at h)) | refine zV ?_ | refine Or.inl ?_) <;> conv => whnf) | fail
 all_goals (refine congrArg aA ?_; simp_all [yP, gR])
theorem Am3 (n : Nat) {d : Int} (hd : d + 1 = n) (hn : 2 ≤ n ∧ n ≤ 100) (hm : Md m) : aI Tryz.prog 123 [aA m, aA d] (bQ m true n (PS.X : PS (Zm m))) := by
 have hm1 := hm.1
 refine bZ Tryz.tabOk aF Tryz.func123 rfl rfl ?_
 conv => whnf
 repeat' first | ((first | refine z0 ?_ | (apply zI; refine zP (mG n hd aD) ?_) | refine zV ?_ | (apply zI; refine zP aG ?_) | refine Or.inl ?_) <;> conv => whnf) | fail
 refine qF (dX (1 : Zm m) (Zm.val_one (by omega)).symm (fun i hi => ?_))
 rw [bY, jD]; split <;> rfl
def yH (d : D) (k : D → Prop) : Prop := match d with
 | .ref r p sz off n => sR r fun r => k (.ref r p sz off n)
 | .ptr r p off => sR r fun r => k (.ptr r p off)
 | .lit v => uM v fun v => k (.lit v)
 | d => k d
def pC (f : D → (D → Prop) → Prop) : List D → (List D → Prop) → Prop
 | [], k => k []
 | d :: ds, k => f d fun d => pC f ds fun ds => k (d :: ds)
def vE (f : D → (D → Prop) → Prop) (d : D) (k : D → Prop) : Prop := match d with
 | .agg ds => pC f ds fun ds => k (.agg ds)
 | .tup ds => pC f ds fun ds => k (.tup ds)
 | .fn g fs cs => pC f fs fun fs => pC f cs fun cs => k (.fn g fs cs)
 | d => yH d k
def yR (d : D) (k : D → Prop) : Prop := vE (vE (vE yH)) d k
def mX : List (Option Root) → (List (Option Root) → Prop) → Prop
 | [], k => k []
 | none :: rs, k => mX rs fun rs => k (none :: rs)
 | some ⟨true, sz, cs⟩ :: rs, k => pC yR cs fun cs => mX rs fun rs => k (some ⟨true, sz, cs⟩ :: rs)
 | some ⟨false, sz, cs⟩ :: rs, k => mX rs fun rs => k (some ⟨false, sz, cs⟩ :: rs)
theorem Ac4 (d : D) (k : D → Prop) : yH d k = k d := by
 unfold yH; split <;> simp only [lG, I3]
theorem F2 {f : D → (D → Prop) → Prop} (hf : ∀ d k, f d k = k d) : ∀ (ds : List D) (k : List D → Prop), pC f ds k = k ds
 | [], k => rfl
 | d :: ds, k => by simp only [pC, hf, F2 hf ds]
theorem R5 {f : D → (D → Prop) → Prop} (hf : ∀ d k, f d k = k d) (d : D) (k : D → Prop) : vE f d k = k d := by
 unfold vE; split <;> simp only [F2 hf, Ac4]
theorem Ae1 (d : D) (k : D → Prop) : yR d k = k d := R5 (R5 (R5 Ac4)) d k
theorem yT : ∀ (rs : List (Option Root)) (k : List (Option Root) → Prop), mX rs k = k rs
 | [], k => rfl
 | none :: rs, k => by simp only [mX, yT rs]
 | some ⟨true, sz, cs⟩ :: rs, k => by simp only [mX, F2 Ae1, yT rs]
 | some ⟨false, sz, cs⟩ :: rs, k => by simp only [mX, yT rs]
theorem Ao6 {P : Program} {p : Prop} {g : Nat} {fs cs args argsB : List D} {rt rtB : List (Option Root)} {K KB : D → List (Option Root) → Prop} {kp : Nat} (σ : List Nat) (h : cN P g kp args (none :: rt) K) (hkp : 1 ≤ kp ∧ kp ≤ σ.length + 1)
   (hent : chk (Go.Vm.distinct (cR σ)) (mV (cR σ) args (fs ++ argsB ++ cs) (fN (cR σ) rtB (cR σ) (none :: rt) True)))
   (hK : ∀ d rt', K d rt' → rt'[0]? = some none ∧ kp ≤ rt'.length ∧ yR (renD (dU σ kp rtB.length) d) fun d => mX (eN σ kp rtB rt') fun r => KB d r) : p ∨ mH P (.fn (.func g) fs cs) argsB rtB KB :=
 .inr (cN.frame σ hkp h hent (fun d rt' hd => by
   obtain ⟨h1, h2, h3⟩ := hK d rt' hd
   rw [Ae1, yT] at h3
   exact ⟨h1, h2, h3⟩))
theorem bD {P : Program} {p : Prop} {g : Nat} {fs cs args argsB : List D} {rt rtB : List (Option Root)} {K KB : D → List (Option Root) → Prop} {kp : Nat} (σ : List Nat) (h : cN P g kp args (none :: rt) K)
   (hK : ∀ d rt', K d rt' → rt'[0]? = some none ∧ kp ≤ rt'.length ∧ yR (renD (dU σ kp rtB.length) d) fun d => mX (eN σ kp rtB rt') fun r => KB d r) (hkp : 1 ≤ kp ∧ kp ≤ σ.length + 1 := by decide)
   (hent : chk (Go.Vm.distinct (cR σ)) (mV (cR σ) args (fs ++ argsB ++ cs) (fN (cR σ) rtB (cR σ) (none :: rt) True)) := by first | ((conv => whnf); (repeat' ((first | refine zP rfl ?_ | refine zP (kP aD) ?_ | refine zP bM ?_ | exact trivial) <;> (conv => whnf))); (first | done | fail))) : p ∨ mH P (.fn (.func g) fs cs) argsB rtB KB :=
 Ao6 σ h hkp hent hK
theorem eC {kp : Nat} (σ : List (Option Nat)) {st st2 : St} (h : yL kp σ st st2 := by first | ((conv => whnf); (repeat' ((first | refine zP rfl ?_ | refine zP (kP aD) ?_ | refine zP bM ?_ | refine zP ?_ ?_ | exact trivial) <;> try (conv => whnf))); (first | done | fail))) : aC kp st st2 := aC.of σ h
def lM (w : Nat) (r : Nat → Int) : List Int := (List.range w).map r
def tM (N w : Nat) (M : Nat → Nat → Int) : List (List Int) := (List.range N).map fun i => lM w (M i)
@[simp] theorem Ax6 (w : Nat) (r : Nat → Int) : (lM w r).length = w := by simp [lM]
@[simp] theorem Axj (N w : Nat) (M : Nat → Nat → Int) : (tM N w M).length = N := by simp [tM]
end Go.Proofs
namespace Go.Proofs
open Go Go.Vm Go.Fg
set_option maxRecDepth 100000
set_option maxHeartbeats 4000000
set_option linter.unusedSimpArgs false
set_option linter.unusedVariables false
def fL (l : List Nat) : List D := l.map fun (b : Nat) => D.lit (Value.int IntKind.u8 (b : Int))
@[simp] theorem bC (l : List Nat) : (fL l).length = l.length := by simp [fL]
theorem sM {l : List Nat} {q i : Nat} (e : q = i) (h : i < l.length) : (fL l)[q]? = some (.lit (.int .u8 ((l.getD i 0 : Nat) : Int))) := by
 subst e
 simp [fL, h]
abbrev aN (o : Bool) (l : List Nat) (a : Nat) (h : Int) : Root := ⟨true, 1, [.list o 1 (fL l), aA a, .lit (.int .u64 h)]⟩
theorem Ahc (z : Int) : 0 ≤ IntKind.u64.wrap ((BitVec.ofInt IntKind.u64.bits z &&& BitVec.ofInt IntKind.u64.bits 16777215).toNat : Nat) ∧ IntKind.u64.wrap ((BitVec.ofInt IntKind.u64.bits z &&& BitVec.ofInt IntKind.u64.bits 16777215).toNat : Nat) ≤ 16777215 := by
 have h1 : (BitVec.ofInt IntKind.u64.bits z &&& BitVec.ofInt IntKind.u64.bits 16777215).toNat ≤ 16777215 := by
   rw [BitVec.toNat_and]
   exact Nat.le_trans Nat.and_le_right (by decide)
 generalize (BitVec.ofInt IntKind.u64.bits z &&& BitVec.ofInt IntKind.u64.bits 16777215).toNat = q at *
 have e : IntKind.u64.wrap (q : Int) = q := by
   simp [IntKind.wrap, IntKind.bits]
   omega
 rw [e]
 omega
theorem cW (o : Bool) (l : List Nat) (hb : ∀ b ∈ l, b < 256) (hl : l.length ≤ 4611686018427387904) (a : Nat) (ha : a ≤ l.length) (hs : Int) (n : Int) :
   cN Tryz.prog 90 2 [.ptr 1 [] 0, aA n] [none, some (aN o l a hs)]
     (fun d rt => ∃ (x : Int) (a' : Nat) (h' : Int), ((n < 1 → x = 0) ∧ (1 ≤ n → 0 ≤ x ∧ x < n)) ∧ a' ≤ l.length ∧ d = aA x ∧ rt = [none, some (aN o l a' h')]) := by
 have hbyte : a < l.length → l.getD a 0 < 256 := fun h => hb _ (by rw [List.getD_eq_getElem?_getD, List.getElem?_eq_getElem h]; exact List.getElem_mem h)
 refine dY Tryz.tabOk aF 2 _ Tryz.func90 rfl rfl ?_
 conv => whnf
 repeat' first | ((first | refine z0 ?_ | (refine zP (fun h => ?_) (fun h => ?_) <;> (try simp only [aB, aE] at h)) | refine zS ?_ | refine zV ?_ | (apply zI; refine zP aM ?_) | (apply zI; refine zP aG ?_) | refine zA ?_ | refine Alt.fst ?_ | refine Or.inl ?_) <;> conv => whnf) | fail
 · have hn1 : n < 1 := by assumption
   have hwk := fun st => aC.autoR (kp := 2) (st := st) (st2 := ⟨[aA 0], [none, some (aN o l a hs)]⟩)
   refine ⟨aA 0, [none, some (aN o l a hs)], ⟨0, a, hs, ⟨fun _ => rfl, fun h => by omega⟩, ha, rfl, rfl⟩, hwk _ ?_⟩
   conv => whnf
   repeat' ((first | refine z1 ?_ | exact trivial) <;> try (conv => whnf))
 · have hn1 : ¬ n < 1 := by assumption
   generalize IntKind.u64.wrap (IntKind.u64.wrap (hs * 6364136223846793005) + 1442695040888963407) = H
   have hx := Ahc (H.fdiv (2 ^ min (Int.toNat 33) IntKind.u64.bits))
   generalize IntKind.u64.wrap ((BitVec.ofInt IntKind.u64.bits (H.fdiv (2 ^ min (Int.toNat 33) IntKind.u64.bits)) &&& BitVec.ofInt IntKind.u64.bits 16777215).toNat : Nat) = X at hx ⊢
   repeat' first | ((first | refine z0 ?_ | (apply zI; refine zP (sM (i := a) aY (by simp only [aB, bC] at *; omega)) ?_) | (refine zP (fun h => ?_) (fun h => ?_) <;> (try simp only [aB, aE] at h)) | refine zS ?_ | refine zV ?_) <;> conv => whnf) | fail
   · have hal : a < l.length := by simp only [bC] at *; omega
     have hby := hbyte hal
     repeat' first | ((first | refine z0 ?_ | (apply zI; refine zP (sM (i := a) aY (by simp only [aB, bC] at *; omega)) ?_) | (refine zP (fun h => ?_) (fun h => ?_) <;> (try simp only [aB, aE] at h)) | refine zS ?_ | refine zV ?_) <;> conv => whnf) | fail
     have hwk := fun st => aC.autoR (kp := 2) (st := st) (st2 := ⟨[aA ((X + ((l.getD a 0 : Nat) : Int)).tmod n)], [none, some (aN o l (a + 1) H)]⟩)
     refine ⟨aA ((X + ((l.getD a 0 : Nat) : Int)).tmod n), [none, some (aN o l (a + 1) H)], ⟨_, a + 1, H, ⟨fun h => by omega, fun h => ⟨Int.tmod_nonneg _ (by omega), Int.tmod_lt_of_pos _ (by omega)⟩⟩, hal, rfl, rfl⟩, hwk _ ?_⟩
     conv => whnf
     repeat' ((first | refine z1 ?_ | exact trivial) <;> try (conv => whnf))
   · have hwk := fun st => aC.autoR (kp := 2) (st := st) (st2 := ⟨[aA (X.tmod n)], [none, some (aN o l a H)]⟩)
     refine ⟨aA (X.tmod n), [none, some (aN o l a H)], ⟨_, a, H, ⟨fun h => by omega, fun h => ⟨Int.tmod_nonneg _ (by omega), Int.tmod_lt_of_pos _ (by omega)⟩⟩, ha, rfl, rfl⟩, hwk _ ?_⟩
     conv => whnf
     repeat' ((first | refine z1 ?_ | exact trivial) <;> try (conv => whnf))
theorem xG (o : Bool) (l : List Nat) (hb : ∀ b ∈ l, b < 256) (hl : l.length ≤ 4611686018427387904) :
   cN Tryz.prog 89 1 [.list o 1 (fL l)] [none]
     (fun d rt => ∃ h' : Int, d = .ptr 1 [] 0 ∧ rt = [none, some (aN o l 0 h')]) := by
 refine dY Tryz.tabOk aF 1 _ Tryz.func89 rfl rfl ?_
 conv => whnf
 repeat' first | ((first | refine z0 ?_ | (refine zP (fun h => ?_) (fun h => ?_) <;> (try simp only [aB, aE] at h)) | refine zS ?_ | refine zV ?_ | (apply zI; refine zP aM ?_) | (apply zI; refine zP aG ?_) | refine zA ?_ | refine Alt.fst ?_ | refine Or.inl ?_) <;> conv => whnf) | fail
 refine aZ Tryz.tabOk aF (α := Nat × Int) (fun x => [(4, aA x.1)]) (fun x => [(1, some (aN o l 0 x.2))]) (fun x => x.1 ≤ l.length) (fun x => l.length - x.1) ((0, IntKind.u64.wrap (5113 + IntKind.u64.wrap (l.length : Nat)))) ?_ ?_ ?_
 · omega
 · conv => whnf
   first | refine aH.autoR ?_ | refine aC.autoR ?_
   conv => whnf
   repeat' ((first | refine z1 ?_ | refine zP ?_ ?_ | exact trivial) <;> try (conv => whnf))
   rw [show cnt 1 (fL l) = l.length by rw [aB, bC]]
 intro ⟨i, hh⟩ hi
 simp only at hi
 conv => whnf
 repeat' first | ((first | refine z0 ?_ | (apply zI; refine zP (sM (i := i) aY (by simp only [aB, bC] at *; omega)) ?_) | (refine zP (fun h => ?_) (fun h => ?_) <;> (try simp only [aB, aE] at h)) | refine zS ?_ | refine zV ?_) <;> conv => whnf) | fail
 · have hil : i < l.length := by simp only [bC] at *; omega
   refine Exists.intro (i + 1, IntKind.u64.wrap (IntKind.u64.wrap (IntKind.u64.wrap (hh * 1099511628211) + IntKind.u64.wrap ((l.getD i 0 : Nat) : Int)) + 11)) (zP hil (zP (by simp only; omega) ?_))
   first | refine aH.autoR ?_ | refine aC.autoR ?_
   conv => whnf
   repeat' ((first | refine z1 ?_ | refine zP ?_ ?_ | exact trivial) <;> try (conv => whnf))
 · have hwk := fun st => aC.autoR (kp := 1) (st := st) (st2 := ⟨[.ptr 1 [] 0], [none, some (aN o l 0 hh)]⟩)
   refine ⟨.ptr 1 [] 0, [none, some (aN o l 0 hh)], ⟨hh, rfl, rfl⟩, hwk _ ?_⟩
   conv => whnf
   repeat' ((first | refine z1 ?_ | exact trivial) <;> try (conv => whnf))
 · have hwk := fun st => aC.autoR (kp := 1) (st := st) (st2 := ⟨[.ptr 1 [] 0], [none, some (aN o l 0 hh)]⟩)
   refine ⟨.ptr 1 [] 0, [none, some (aN o l 0 hh)], ⟨hh, rfl, rfl⟩, hwk _ ?_⟩
   conv => whnf
   repeat' ((first | refine z1 ?_ | exact trivial) <;> try (conv => whnf))
theorem jM (o : Bool) (l : List Nat) (hb : ∀ b ∈ l, b < 256) (hl : l.length ≤ 4611686018427387904) (a : Nat) (ha : a ≤ l.length) (hs : Int) (xs : List Int) (hx : 1 ≤ xs.length ∧ xs.length ≤ 1000) :
   cN Tryz.prog 111 3 [.ptr 1 [] 0, .ref 2 [] 1 0 xs.length] [none, some (aN o l a hs), some ⟨false, 1, ints xs⟩]
     (fun d rt => ∃ (x : Int) (a' : Nat) (h' : Int), x ∈ xs ∧ a' ≤ l.length ∧ d = aA x ∧ rt = [none, some (aN o l a' h'), some ⟨false, 1, ints xs⟩]) := by
 refine dY Tryz.tabOk aF 3 _ Tryz.func111 rfl rfl ?_
 conv => whnf
 repeat' first | (refine bD [1] (cW o l hb hl a ha hs (xs.length : Int)) (fun d rt' hd => ?_)) | fail
 obtain ⟨x, a1, h1, hx1, ha1, rfl, rfl⟩ := hd
 refine ⟨rfl, by simp, ?_⟩
 conv => whnf
 have hx2 := hx1.2 (by omega)
 repeat' first | ((first | refine z0 ?_ | (refine zP (fun h => ?_) (fun h => ?_) <;> (try simp only [aB, aE] at h)) | refine zS ?_ | refine zV ?_ | (apply zI; refine zP aM ?_) | (apply zI; refine zP aG ?_) | refine zA ?_ | refine Alt.fst ?_ | refine Or.inl ?_) <;> conv => whnf) | fail
 have hmem : xs.getD x.toNat 0 ∈ xs := by
   rw [List.getD_eq_getElem?_getD, List.getElem?_eq_getElem (show x.toNat < xs.length by omega)]; exact List.getElem_mem _
 have hwk := fun st => aC.autoR (kp := 3) (st := st) (st2 := ⟨[aA (xs.getD x.toNat 0)], [none, some (aN o l a1 h1), some ⟨false, 1, ints xs⟩]⟩)
 refine ⟨aA (xs.getD x.toNat 0), [none, some (aN o l a1 h1), some ⟨false, 1, ints xs⟩], ⟨_, a1, h1, hmem, ha1, rfl, rfl⟩, hwk _ ?_⟩
 conv => whnf
 repeat' ((first | refine z1 ?_ | exact trivial) <;> try (conv => whnf))
end Go.Proofs
