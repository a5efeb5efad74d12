import Derived.Test.YtndhpcigpghejaaGreatTab
import Derived.Test.YtndhpcigpghejaaGreatVm28
namespace Go.Proofs
open Go Go.Vm Go.Fg
theorem mixOrd : Tryz.prog.follows .mixedOrders = true := by kernel_rfl
def inB (n lo hi : Int) : Bool := decide (lo ≤ n ∧ n ≤ hi)
set_option maxRecDepth 100000
set_option linter.unusedSimpArgs false
set_option linter.unusedVariables false
theorem c_impl_in (n lo hi : Int) : PureCall Tryz.prog 192 [dint n, dint lo, dint hi] (dbool (inB n lo hi)) := by
 refine pure_of_vc Tryz.tabOk mixOrd Tryz.func192 rfl rfl ?_
 conv => whnf
 repeat' first | ((first | refine z0 ?_ | (refine And.intro (fun h => ?_) (fun h => ?_) <;> (try simp only [cnt1, ints_length] at h)) | refine zS ?_ | refine zV ?_ | (apply zI; refine zP vObx ?_) | refine Or.inl ?_) <;> conv => whnf) | fail
 all_goals (refine dbool_congr ?_; first | rfl | (simp_all [inB]; done) | (simp_all [inB]; omega) | (simp_all [inB]; intros; omega))
theorem c_l01In (n lo hi : Int) : PureCall Tryz.prog 211 [dint n, dint lo, dint hi] (dbool (inB n lo hi)) := by
 refine pure_of_vc Tryz.tabOk mixOrd Tryz.func211 rfl rfl ?_
 conv => whnf
 repeat' first | ((first | refine z0 ?_ | (refine And.intro (fun h => ?_) (fun h => ?_) <;> (try simp only [cnt1, ints_length] at h)) | refine zS ?_ | refine zV ?_ | (apply zI; refine zP vObx ?_) | refine Or.inl ?_) <;> conv => whnf) | fail
 all_goals (refine dbool_congr ?_; first | rfl | (simp_all [inB]; done) | (simp_all [inB]; omega) | (simp_all [inB]; intros; omega))
theorem c_IsModulus (m : Int) : PureCall Tryz.prog 333 [dint m] (dbool (inB m 2 10000)) := by
 refine pure_of_vc Tryz.tabOk mixOrd Tryz.func333 rfl rfl ?_
 conv => whnf
 repeat' first | ((first | refine z0 ?_ | (apply zI; refine zP (c_impl_in _ _ _) ?_) | (refine And.intro (fun h => ?_) (fun h => ?_) <;> (try simp only [cnt1, ints_length] at h)) | refine zV ?_ | refine Or.inl ?_) <;> conv => whnf) | fail
 all_goals (refine dbool_congr ?_; first | rfl | (simp_all []; done) | (simp_all []; omega) | (simp_all []; intros; omega))
theorem c_l01Modulus (m : Int) : PureCall Tryz.prog 386 [dint m] (dbool (inB m 2 10000)) := by
 refine pure_of_vc Tryz.tabOk mixOrd Tryz.func386 rfl rfl ?_
 conv => whnf
 repeat' first | ((first | refine z0 ?_ | (apply zI; refine zP (c_l01In _ _ _) ?_) | (refine And.intro (fun h => ?_) (fun h => ?_) <;> (try simp only [cnt1, ints_length] at h)) | refine zV ?_ | (apply zI; refine zP vObx ?_) | refine Or.inl ?_) <;> conv => whnf) | fail
 all_goals (refine dbool_congr ?_; first | rfl | (simp_all []; done) | (simp_all []; omega) | (simp_all []; intros; omega))
theorem c_isNumber (a m : Int) (h1 : inR .i64 (m - 1)) : PureCall Tryz.prog 294 [dint a, dint m] (dbool (inB a 0 (m - 1))) := by
 refine pure_of_vc Tryz.tabOk mixOrd Tryz.func294 rfl rfl ?_
 conv => whnf
 repeat' first | ((first | refine z0 ?_ | (apply zI; refine zP (c_impl_in _ _ _) ?_) | (refine And.intro (fun h => ?_) (fun h => ?_) <;> (try simp only [cnt1, ints_length] at h)) | refine zV ?_ | refine Or.inl ?_) <;> conv => whnf) | fail
 all_goals (refine dbool_congr ?_; first | rfl | (simp_all []; done) | (simp_all []; omega) | (simp_all []; intros; omega))
def numsB (m : Int) (l : List Int) : Bool := l.all fun x => inB x 0 (m - 1)
theorem numsB_of {m : Int} {l : List Int} (h : ∀ j, j < l.length → inB (l.getD j 0) 0 (m - 1) = true) : numsB m l = true := by
 refine List.all_eq_true.2 (fun x hx => ?_)
 obtain ⟨i, hi, rfl⟩ := List.getElem_of_mem hx
 have := h i hi
 simpa [hi] using this
theorem numsB_not {m : Int} {l : List Int} {i : Nat} (hi : i < l.length) (h : inB (l.getD i 0) 0 (m - 1) = false) : numsB m l = false := by
 refine List.all_eq_false.2 ⟨l[i], List.getElem_mem hi, ?_⟩
 simp [hi] at h
 simp [h]
theorem numsB_iff {m : Int} {l : List Int} : numsB m l = true ↔ Nums m l := by
 simp only [numsB, List.all_eq_true, inB, decide_eq_true_eq, Nums]
 exact ⟨fun h x hx => by have := h x hx; omega, fun h x hx => by have := h x hx; omega⟩
theorem h1of {m : Int} (h : inB m 2 10000 = true) : inR .i64 (m - 1) := by
 simp only [inB, decide_eq_true_eq] at h
 exact inR64 (by omega) (by omega)
theorem lt_cases {i : Nat} {p : Nat → Prop} (h : ∀ j, j < i → p j) (h2 : p i) : ∀ j, j < i + 1 → p j := fun j hj => by
 rcases Nat.lt_or_ge j i with h' | h'
 · exact h j h'
 · rw [show j = i by omega]; exact h2
theorem c_l01Numbers (o : Bool) (m : Int) (l : List Int) (h1 : inR .i64 (m - 1)) (hl : l.length ≤ 4611686018427387904) : PureCall Tryz.prog 387 [dint m, .list o 1 (ints l)] (dbool (numsB m l)) := by
 refine pure_of_vc Tryz.tabOk mixOrd Tryz.func387 rfl rfl ?_
 conv => whnf
 refine loop_at Tryz.tabOk mixOrd (α := Nat) (fun i => [(5, dint i)]) (fun i => []) (fun i => i ≤ l.length ∧ ∀ j, j < i → inB (l.getD j 0) 0 (m - 1) = true) (fun i => l.length - i) (0) ?_ ?_ ?_
 · exact ⟨by omega, by omega⟩
 · conv => whnf
   first | refine WeakS.auto ?_ | refine Weak.auto ?_
   conv => whnf
   repeat' ((first | refine z1 ?_ | refine z2 ?_ | exact trivial) <;> try (conv => whnf))
 intro i hi
 conv => whnf
 repeat' first | ((first | refine z0 ?_ | (apply zI; refine zP (c_l01In _ _ _) ?_) | (refine And.intro (fun h => ?_) (fun h => ?_) <;> (try simp only [cnt1, ints_length] at h)) | refine zV ?_ | (apply zI; refine zP vObx ?_) | refine Or.inl ?_) <;> conv => whnf) | fail
 · refine Exists.intro (i + 1) (And.intro ⟨by omega, lt_cases hi.2 (by assumption)⟩ (And.intro (by omega) ?_))
   first | refine WeakS.auto ?_ | refine Weak.auto ?_
   conv => whnf
   repeat' ((first | refine z1 ?_ | refine z2 ?_ | exact trivial) <;> try (conv => whnf))
 · exact dbool_congr (numsB_not (i := i) (by omega) (by assumption)).symm
 · exact dbool_congr (numsB_of (fun j hj => hi.2 j (by omega))).symm
theorem getD_set_self {l : List Int} {i : Nat} {x : Int} (h : i < l.length) : (l.set i x).getD i 0 = x := by simp [h]
theorem getD_set_ne {l : List Int} {i j : Nat} {x : Int} (h : i ≠ j) : (l.set i x).getD j 0 = l.getD j 0 := by simp [List.getElem?_set_ne h]
def dmod (n m : Int) : Int := (n.tmod m + m).tmod m
theorem dmod_emod {n m : Int} (h : 0 < m) : dmod n m = n % m := by
 unfold dmod
 have h1 := Int.lt_tmod_of_pos n h
 rw [Int.tmod_eq_emod_of_nonneg (by omega), Int.add_emod_right, Int.tmod_eq_emod]
 split
 · simp
 · rw [Int.sub_emod, Int.emod_eq_zero_of_dvd (Int.dvd_natAbs.2 (Int.dvd_refl m))]; simp
theorem c_mod (n m : Int) (h : 0 < m) (h1 : m ≤ 4611686018427387904) : PureCall Tryz.prog 174 [dint n, dint m] (dint (n % m)) := by
 rw [← dmod_emod h]
 have h1 := Int.lt_tmod_of_pos n h
 have h2 := Int.tmod_lt_of_pos n h
 refine pure_of_vc Tryz.tabOk mixOrd Tryz.func174 rfl rfl ?_
 conv => whnf
 repeat' first | ((first | refine z0 ?_ | (refine And.intro (fun h => ?_) (fun h => ?_) <;> (try simp only [cnt1, ints_length] at h)) | refine zS ?_ | refine zV ?_ | (apply zI; refine zP vObx ?_) | refine Or.inl ?_) <;> conv => whnf) | fail
 rfl
theorem c_l01Mod (n m : Int) (h : 0 < m) (h1 : m ≤ 4611686018427387904) : PureCall Tryz.prog 421 [dint m, dint n] (dint (n % m)) := by
 rw [← dmod_emod h]
 have h1 := Int.lt_tmod_of_pos n h
 have h2 := Int.tmod_lt_of_pos n h
 refine pure_of_vc Tryz.tabOk mixOrd Tryz.func421 rfl rfl ?_
 conv => whnf
 repeat' first | ((first | refine z0 ?_ | (refine And.intro (fun h => ?_) (fun h => ?_) <;> (try simp only [cnt1, ints_length] at h)) | refine zS ?_ | refine zV ?_ | (apply zI; refine zP vObx ?_) | refine Or.inl ?_) <;> conv => whnf) | fail
 rfl
theorem c_toInt64S (o : Bool) (l : List Int) (hl : l.length ≤ 1048576) : PureCall Tryz.prog 365 [.list o 1 (ints l)] (.list true 1 (ints l)) := by
 refine pure_of_vc Tryz.tabOk mixOrd Tryz.func365 rfl rfl ?_
 conv => whnf
 repeat' first | ((first | refine z0 ?_ | (refine And.intro (fun h => ?_) (fun h => ?_) <;> (try simp only [cnt1, ints_length] at h)) | refine zS ?_ | refine zV ?_ | (apply zI; refine zP vObx ?_) | refine Or.inl ?_) <;> conv => whnf) | fail
 refine loop_at Tryz.tabOk mixOrd (α := Nat × List Int) (fun x => [(3, .ref 0 [] 1 0 l.length), (4, dint x.1)]) (fun x => [(0, some ⟨false, 1, ints x.2⟩)]) (fun x => x.1 ≤ l.length ∧ x.2.length = l.length ∧ ∀ j, j < x.1 → x.2.getD j 0 = l.getD j 0) (fun x => l.length - x.1) (0, List.replicate l.length 0) ?_ ?_ ?_
 · exact ⟨by simp, by simp, fun j hj => by simp at hj⟩
 · conv => whnf
   first | refine WeakS.auto ?_ | refine Weak.auto ?_
   conv => whnf
   repeat' ((first | refine z1 ?_ | refine z2 ?_ | exact trivial) <;> try (conv => whnf))
 intro ⟨i, r⟩ ⟨h1, h2, h3⟩
 simp only at h1 h2 h3
 conv => whnf
 repeat' first | ((first | refine z0 ?_ | (refine And.intro (fun h => ?_) (fun h => ?_) <;> (try simp only [cnt1, ints_length] at h)) | refine zS ?_ | refine zV ?_ | (apply zI; refine zP vObx ?_) | refine Or.inl ?_) <;> conv => whnf) | fail
 · refine Exists.intro (i + 1, r.set i (l.getD i 0)) (And.intro ⟨by simp only; omega, by simp only [List.length_set]; omega, lt_cases (fun j hj => ?_) ?_⟩ (And.intro (by simp only; omega) ?_))
   · rw [getD_set_ne (by omega)]; exact h3 j hj
   · rw [getD_set_self (by omega)]
   first | refine WeakS.auto ?_ | refine Weak.auto ?_
   conv => whnf
   repeat' ((first | refine z1 ?_ | refine z2 ?_ | exact trivial) <;> try (conv => whnf))
 · have : r = l := List.ext_getElem h2 (fun j h4 h5 => by have := h3 j (by omega); simpa [h4, h5] using this)
   rw [this]
theorem c_IndexFuncA (g : Nat) (ds : List D) (p : Int → Bool) (hp : ∀ x, PureCall Tryz.prog g [dint x, .cptr ds 0] (dbool (p x))) (o : Bool) (l : List Int) (hl : l.length ≤ 1048576) :
   PureCall Tryz.prog 424 [.list o 1 (ints l), (.fn (.func g) [] [.cptr ds 0])] (dint (match l.findIdx? p with | some i => i | none => -1)) := by
 refine pure_of_vc Tryz.tabOk mixOrd Tryz.func424 rfl rfl ?_
 conv => whnf
 repeat' first | ((first | refine z0 ?_ | (refine And.intro (fun h => ?_) (fun h => ?_) <;> (try simp only [cnt1, ints_length] at h)) | refine zS ?_ | refine zV ?_ | (apply zI; refine zP vObx ?_) | refine Or.inl ?_) <;> conv => whnf) | fail
 refine loop_at Tryz.tabOk mixOrd (α := Nat) (fun i => [(7, dint l.length), (8, dint i)]) (fun i => []) (fun i => i ≤ l.length ∧ ∀ j, j < i → p (l.getD j 0) = false) (fun i => l.length - i) (0) ?_ ?_ ?_
 · exact ⟨by omega, by omega⟩
 · conv => whnf
   first | refine WeakS.auto ?_ | refine Weak.auto ?_
   conv => whnf
   repeat' ((first | refine z1 ?_ | refine z2 ?_ | exact trivial) <;> try (conv => whnf))
 intro i hi
 conv => whnf
 repeat' first | ((first | refine z0 ?_ | (apply zI; refine zP (hp _) ?_) | (refine And.intro (fun h => ?_) (fun h => ?_) <;> (try simp only [cnt1, ints_length] at h)) | refine zV ?_ | (apply zI; refine zP vObx ?_) | refine Or.inl ?_) <;> conv => whnf) | fail
 · refine congrArg dint ?_
   have : l.findIdx? p = some i := List.findIdx?_eq_some_iff_getElem.2 ⟨by omega, by simpa [show i < l.length by omega] using h, fun j hj => by have := hi.2 j hj; simpa [show j < l.length by omega] using this⟩
   rw [this]
 · refine Exists.intro (i + 1) (And.intro ⟨by omega, lt_cases hi.2 (by assumption)⟩ (And.intro (by omega) ?_))
   first | refine WeakS.auto ?_ | refine Weak.auto ?_
   conv => whnf
   repeat' ((first | refine z1 ?_ | refine z2 ?_ | exact trivial) <;> try (conv => whnf))
 · refine congrArg dint ?_
   have : l.findIdx? p = none := List.findIdx?_eq_none_iff.2 (fun x hx => by
     obtain ⟨j, hj, rfl⟩ := List.getElem_of_mem hx
     have := hi.2 j (by omega)
     simpa [hj] using this)
   rw [this]
theorem c_ContainsFuncA (g : Nat) (ds : List D) (p : Int → Bool) (hp : ∀ x, PureCall Tryz.prog g [dint x, .cptr ds 0] (dbool (p x))) (o : Bool) (l : List Int) (hl : l.length ≤ 1048576) :
   PureCall Tryz.prog 412 [.list o 1 (ints l), (.fn (.func g) [] [.cptr ds 0])] (dbool (l.any p)) := by
 refine pure_of_vc Tryz.tabOk mixOrd Tryz.func412 rfl rfl ?_
 conv => whnf
 repeat' first | ((first | refine z0 ?_ | (apply zI; refine zP (c_IndexFuncA g ds p hp o l hl) ?_) | (refine And.intro (fun h => ?_) (fun h => ?_) <;> (try simp only [cnt1, ints_length] at h)) | refine Or.inl ?_) <;> conv => whnf) | fail
 all_goals
   refine dbool_congr ?_
   cases e : l.findIdx? p with
   | none =>
     simp only [e] at h
     have := List.findIdx?_eq_none_iff.1 e
     simp_all
   | some i =>
     simp only [e] at h
     obtain ⟨hi, hp, _⟩ := List.findIdx?_eq_some_iff_getElem.1 e
     have : l.any p = true := List.any_eq_true.2 ⟨_, List.getElem_mem hi, hp⟩
     first | (rw [this]; done) | omega
theorem c_IndexFuncB (g : Nat)  (p : Int → Bool) (hp : ∀ x, PureCall Tryz.prog g [dint x] (dbool (p x))) (o : Bool) (l : List Int) (hl : l.length ≤ 1048576) :
   PureCall Tryz.prog 424 [.list o 1 (ints l), (.fn (.func g) [] [])] (dint (match l.findIdx? p with | some i => i | none => -1)) := by
 refine pure_of_vc Tryz.tabOk mixOrd Tryz.func424 rfl rfl ?_
 conv => whnf
 repeat' first | ((first | refine z0 ?_ | (refine And.intro (fun h => ?_) (fun h => ?_) <;> (try simp only [cnt1, ints_length] at h)) | refine zS ?_ | refine zV ?_ | (apply zI; refine zP vObx ?_) | refine Or.inl ?_) <;> conv => whnf) | fail
 refine loop_at Tryz.tabOk mixOrd (α := Nat) (fun i => [(7, dint l.length), (8, dint i)]) (fun i => []) (fun i => i ≤ l.length ∧ ∀ j, j < i → p (l.getD j 0) = false) (fun i => l.length - i) (0) ?_ ?_ ?_
 · exact ⟨by omega, by omega⟩
 · conv => whnf
   first | refine WeakS.auto ?_ | refine Weak.auto ?_
   conv => whnf
   repeat' ((first | refine z1 ?_ | refine z2 ?_ | exact trivial) <;> try (conv => whnf))
 intro i hi
 conv => whnf
 repeat' first | ((first | refine z0 ?_ | (apply zI; refine zP (hp _) ?_) | (refine And.intro (fun h => ?_) (fun h => ?_) <;> (try simp only [cnt1, ints_length] at h)) | refine zV ?_ | (apply zI; refine zP vObx ?_) | refine Or.inl ?_) <;> conv => whnf) | fail
 · refine congrArg dint ?_
   have : l.findIdx? p = some i := List.findIdx?_eq_some_iff_getElem.2 ⟨by omega, by simpa [show i < l.length by omega] using h, fun j hj => by have := hi.2 j hj; simpa [show j < l.length by omega] using this⟩
   rw [this]
 · refine Exists.intro (i + 1) (And.intro ⟨by omega, lt_cases hi.2 (by assumption)⟩ (And.intro (by omega) ?_))
   first | refine WeakS.auto ?_ | refine Weak.auto ?_
   conv => whnf
   repeat' ((first | refine z1 ?_ | refine z2 ?_ | exact trivial) <;> try (conv => whnf))
 · refine congrArg dint ?_
   have : l.findIdx? p = none := List.findIdx?_eq_none_iff.2 (fun x hx => by
     obtain ⟨j, hj, rfl⟩ := List.getElem_of_mem hx
     have := hi.2 j (by omega)
     simpa [hj] using this)
   rw [this]
theorem c_all1A (g : Nat) (ds : List D) (p : Int → Bool) (hp : ∀ x, PureCall Tryz.prog g [dint x, .cptr ds 0] (dbool (p x))) (x : Int) :
   PureCall Tryz.prog 413 [dint x, .cptr [(.fn (.func g) [] [.cptr ds 0])] 0] (dbool (!p x)) := by
 refine pure_of_vc Tryz.tabOk mixOrd Tryz.func413 rfl rfl ?_
 conv => whnf
 repeat' first | ((first | refine z0 ?_ | (apply zI; refine zP (hp x) ?_) | (refine And.intro (fun h => ?_) (fun h => ?_) <;> (try simp only [cnt1, ints_length] at h)) | (apply zI; refine zP vObx ?_) | refine Or.inl ?_) <;> conv => whnf) | fail
 all_goals (refine dbool_congr ?_; first | rfl | (simp_all []; done) | (simp_all []; omega) | (simp_all []; intros; omega))
theorem c_allA (g : Nat) (ds : List D) (p : Int → Bool) (hp : ∀ x, PureCall Tryz.prog g [dint x, .cptr ds 0] (dbool (p x))) (o : Bool) (l : List Int) (hl : l.length ≤ 1048576) :
   PureCall Tryz.prog 303 [.list o 1 (ints l), (.fn (.func g) [] [.cptr ds 0])] (dbool (l.all p)) := by
 refine pure_of_vc Tryz.tabOk mixOrd Tryz.func303 rfl rfl ?_
 conv => whnf
 repeat' first | ((first | refine z0 ?_ | (apply zI; refine zP (c_ContainsFuncA 413 [(.fn (.func g) [] [.cptr ds 0])] (fun x => !p x) (fun x => c_all1A g ds p hp x) o l hl) ?_) | (refine And.intro (fun h => ?_) (fun h => ?_) <;> (try simp only [cnt1, ints_length] at h)) | refine zV ?_ | refine Or.inl ?_) <;> conv => whnf) | fail
 all_goals
   refine dbool_congr ?_
   rw [List.all_eq_not_any_not]
   simp_all
def serB (m : Int) (l : List Int) : Bool := inB m 2 10000 && inB l.length 2 11 && numsB m l
theorem c_degree (o : Bool) (m : Int) (l : List Int) (hl : l.length ≤ 1048576) : PureCall Tryz.prog 287 [.agg [dint m, .list o 1 (ints l)]] (dint (l.length - 1)) := by
 refine pure_of_vc Tryz.tabOk mixOrd Tryz.func287 rfl rfl ?_
 conv => whnf
 repeat' first | ((first | refine z0 ?_ | (refine And.intro (fun h => ?_) (fun h => ?_) <;> (try simp only [cnt1, ints_length] at h)) | refine zS ?_ | refine zV ?_ | (apply zI; refine zP vObx ?_) | refine Or.inl ?_) <;> conv => whnf) | fail
 simp [cnt1]
theorem c_IsSeries1 (a m : Int) (d : D) (h1 : inR .i64 (m - 1)) : PureCall Tryz.prog 381 [dint a, .cptr [dint m, d] 0] (dbool (inB a 0 (m - 1))) := by
 refine pure_of_vc Tryz.tabOk mixOrd Tryz.func381 rfl rfl ?_
 conv => whnf
 repeat' first | ((first | refine z0 ?_ | (apply zI; refine zP (c_isNumber _ _ h1) ?_) | (refine And.intro (fun h => ?_) (fun h => ?_) <;> (try simp only [cnt1, ints_length] at h)) | (apply zI; refine zP vObx ?_) | refine Or.inl ?_) <;> conv => whnf) | fail
 all_goals (refine dbool_congr ?_; first | rfl | (simp_all []; done) | (simp_all []; omega) | (simp_all []; intros; omega))
theorem c_IsSeries (o : Bool) (m : Int) (l : List Int) (hl : l.length ≤ 1048576) : PureCall Tryz.prog 247 [.agg [dint m, .list o 1 (ints l)]] (dbool (serB m l)) := by
 refine pure_of_vc Tryz.tabOk mixOrd Tryz.func247 rfl rfl ?_
 conv => whnf
 repeat' first | ((first | refine z0 ?_ | (apply zI; refine zP (c_IsModulus _) ?_) | (apply zI; refine zP (c_impl_in _ _ _) ?_) | (apply zI; refine zP (c_degree _ _ _ hl) ?_) | (apply zI; refine zP (c_allA 381 [dint m, .list o 1 (ints l)] (fun a => inB a 0 (m - 1)) (fun a => c_IsSeries1 a m _ (h1of (by assumption))) _ l hl) ?_) | (refine And.intro (fun h => ?_) (fun h => ?_) <;> (try simp only [cnt1, ints_length] at h)) | refine zV ?_ | refine Or.inl ?_) <;> conv => whnf) | fail
 all_goals (refine dbool_congr ?_; simp_all [serB, numsB, inB])
 all_goals (intros; omega)
end Go.Proofs
