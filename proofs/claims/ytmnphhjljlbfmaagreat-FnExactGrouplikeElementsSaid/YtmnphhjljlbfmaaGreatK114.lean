/- All elements of a kernel algebra for which a condition holds. -/
-- tables
-- rec
import Derived.Test.YtmnphhjljlbfmaaGreatK113
import Derived.Test.YtmnphhjljlbfmaaGreatK79
namespace Go.Proofs
open Go Go.Vm Go.Fg Go.Fg.PS
set_option maxRecDepth 100000
set_option maxHeartbeats 4000000
set_option linter.unusedSimpArgs false
set_option linter.unusedVariables false
theorem ints_snoc (u : List Int) (x : Int) : ints u ++ [dint x] = ints (u ++ [x]) := by simp [ints]
theorem sub_ints1 (u : List Int) : sub (ints u) 1 0 (cnt 1 (ints u)) = ints u := by
  rw [cnt1]; simp [sub, List.take_of_length_le]
theorem sub_cells1 (u : List Int) : ∀ d, d ∈ sub (ints u) 1 0 (cnt 1 (ints u)) → d.cellOk = true := by
  rw [sub_ints1]
  intro d hd
  obtain ⟨x, _, rfl⟩ := List.mem_map.1 hd
  rfl
theorem sub_room1 (u : List Int) (hu : u.length ≤ 1000) : 0 < 1 ∧ roomOk (cnt 1 (sub (ints u) 1 0 (cnt 1 (ints u))) + 1) (Tryz.tab.get 2).bytes := by
  rw [sub_ints1, cnt1, ints_length]
  exact ⟨by omega, room (by rw [show (Tryz.tab.get 2).bytes = 8 from by decide +kernel]; omega) (by omega)⟩
theorem sub_cnt1 (u : List Int) (d : D) : (0 + (cnt 1 (sub (ints u) 1 0 (cnt 1 (ints u))) + 1)) * 1 ≤ (sub (ints u) 1 0 (cnt 1 (ints u)) ++ sub [d] 1 0 1).length := by
  rw [sub_ints1, cnt1, List.length_append, show (sub [d] 1 0 1).length = 1 from rfl]; omega
theorem app_ints1 (u : List Int) (x : Int) : sub (ints u) 1 0 (cnt 1 (ints u)) ++ sub [dint x] 1 0 1 = ints (u ++ [x]) := by
  rw [sub_ints1, ← ints_snoc]; rfl
theorem app_frz1 (u : List Int) (x : Int) : (sub (ints u) 1 0 (cnt 1 (ints u)) ++ sub [dint x] 1 0 1).map frz1 = ints (u ++ [x]) := by
  rw [app_ints1]; simp [ints, Function.comp_def, frz1]
theorem app_len1 (u : List Int) (x : Int) : (cnt 1 (sub (ints u) 1 0 (cnt 1 (ints u))) + 1) * 1 = (sub (ints u) 1 0 (cnt 1 (ints u)) ++ sub [dint x] 1 0 1).length := by
  rw [app_ints1, sub_ints1, cnt1]; simp
theorem rows_snoc1 (L : List (List Int)) (u : List Int) : rows true L ++ [.list true 1 (ints u)] = rows true (L ++ [u]) := by simp [rows]
theorem c_copyOfE (o : Bool) (l : List Int) (hl : l.length ≤ 1048576) : PureCall Tryz.prog 56 [.list o 1 (ints l)] (.list true 1 (ints l)) := by
  refine pure_of_vcR Tryz.tabOk mixOrd Tryz.func56 rfl rfl ?_
  conv => whnf
  repeat' first | ((first | refine And.intro (Or.inl rfl) ?_ | (refine And.intro (fun h => ?_) (fun h => ?_) <;> (try simp only [cnt1, ints_length] at h)) | refine And.intro (show slotsOk _ = true by decide +kernel) ?_ | refine And.intro vOb ?_ | (apply Exists.intro; refine And.intro vObt ?_) | (apply Exists.intro; refine And.intro vObx ?_) | refine And.intro vArT ?_ | refine Or.inl ?_) <;> conv => whnf) | fail
  rfl
abbrev rtE (kD fD : D) (l r : Nat) : List (Option Root) := [some ⟨true, 1, [kD]⟩, some ⟨true, 1, [fD]⟩, some ⟨true, 1, [.ref r [] 1 0 l]⟩, some ⟨true, 1, [.fn (.func 55) [] [.ptr 1 [] 0, .ptr 2 [] 0, .ptr 3 [] 0, .ptr 4 [] 0]]⟩]
abbrev kerD (p q : Nat) (d2 d3 d4 : D) : D := .cptr [dint p, dint q, d2, d3, d4] 0
theorem c_extend (p q : Nat) (hp : 2 ≤ p ∧ p ≤ 100) (hq : 1 ≤ q ∧ q ≤ 100) (d2 d3 d4 : D) (g : Nat)  (good : List Int → Bool)
    (hf : ∀ u : List Int, u.length = q → (∀ x ∈ u, 0 ≤ x ∧ x < (p : Int)) → PureCall Tryz.prog g [kerD p q d2 d3 d4, .list false 1 (ints u)] (dbool (good u))) :
    ∀ (n : Nat) (u : List Int) (L : List (List Int)), u.length + n = q → (∀ x ∈ u, 0 ≤ x ∧ x < (p : Int)) → L.length + p ^ n ≤ 1000000 →
    CallsTo Tryz.prog 55 6 [.list false 1 (ints u), .ptr 1 [] 0, .ptr 2 [] 0, .ptr 3 [] 0, .ptr 4 [] 0]
      (none :: rtE (kerD p q d2 d3 d4) (.fn (.func g) [kerD p q d2 d3 d4] []) L.length 5 ++ [some ⟨false, 1, rows true L⟩])
      (fun d rt => d = .tup [] ∧ rt = (none :: rtE (kerD p q d2 d3 d4) (.fn (.func g) [kerD p q d2 d3 d4] []) (L ++ ext p good n u).length 6 ++ none :: [some ⟨false, 1, rows true (L ++ ext p good n u)⟩]))
  | 0, u, L, hu, hb, hL => by
    have key := hf u (by omega) hb
    refine callsTo_of Tryz.tabOk mixOrd 6 _ Tryz.func55 rfl rfl ?_
    conv => whnf
    repeat' first | ((first | refine And.intro (Or.inl rfl) ?_ | (apply Exists.intro; refine And.intro (rfl) ?_) | (apply Exists.intro; refine And.intro (key) ?_) | (apply Exists.intro; refine And.intro (c_copyOfE _ u (by omega)) ?_) | (refine And.intro (fun h => ?_) (fun h => ?_) <;> (try simp only [cnt1, ints_length] at h) <;> first | (exfalso; omega) | skip) | refine And.intro (show slotsOk _ = true by decide +kernel) ?_ | refine And.intro vOb ?_ | (apply Exists.intro; refine And.intro vObt ?_) | (apply Exists.intro; refine And.intro vObx ?_) | refine And.intro vArT ?_ | refine And.intro ((by simp)) ?_ | refine And.intro (one_lst _ _ _) ?_ | refine And.intro (rows_plain _) ?_ | refine Or.inl ?_) <;> conv => whnf) | fail
    · have hg : good u = true := by assumption
      have e : L ++ ext p good 0 u = L ++ [u] := by rw [ext, if_pos hg]
      rw [e, List.length_append, List.length_singleton]
      refine ⟨.tup [], none :: rtE (kerD p q d2 d3 d4) (.fn (.func g) [kerD p q d2 d3 d4] []) (L.length + 1) 6 ++ none :: [some ⟨false, 1, rows true (L ++ [u])⟩], ⟨rfl, rfl⟩, Weak.of (kp := 6) [none, some 1, some 2, some 3, some 4, none, some 9] ?_⟩
      conv => whnf
      repeat' ((first | exact trivial | refine And.intro rfl ?_ | refine And.intro (eqV_int vAr) ?_ | refine And.intro vOb ?_ | refine And.intro ?_ ?_) <;> try (conv => whnf))
      all_goals exact rows_snoc1 L u
    · have hg : good u = false := by assumption
      have e : L ++ ext p good 0 u = L := by rw [ext, if_neg (by rw [hg]; exact Bool.false_ne_true), List.append_nil]
      rw [e]
      refine ⟨.tup [], none :: rtE (kerD p q d2 d3 d4) (.fn (.func g) [kerD p q d2 d3 d4] []) L.length 6 ++ none :: [some ⟨false, 1, rows true L⟩], ⟨rfl, rfl⟩, Weak.of (kp := 6) [none, some 1, some 2, some 3, some 4, none, some 5] ?_⟩
      conv => whnf
      repeat' ((first | exact trivial | refine And.intro rfl ?_ | refine And.intro (eqV_int vAr) ?_ | refine And.intro vOb ?_ | refine And.intro ?_ ?_) <;> try (conv => whnf))
  | n + 1, u, L, hu, hb, hL => by
    refine callsTo_of Tryz.tabOk mixOrd 6 _ Tryz.func55 rfl rfl ?_
    conv => whnf
    have hpow : p * p ^ n ≤ 1000000 := by rw [Nat.pow_succ, Nat.mul_comm] at hL; omega
    have hlen := extR_len (p := p) (by omega) good n u
    repeat' first | ((first | refine And.intro (Or.inl rfl) ?_ | (apply Exists.intro; refine And.intro (rfl) ?_) | (refine And.intro (fun h => ?_) (fun h => ?_) <;> (try simp only [cnt1, ints_length] at h) <;> first | (exfalso; omega) | skip) | refine And.intro (show slotsOk _ = true by decide +kernel) ?_ | refine And.intro vOb ?_ | (apply Exists.intro; refine And.intro vObt ?_) | (apply Exists.intro; refine And.intro vObx ?_) | refine And.intro vArT ?_ | refine Or.inl ?_) <;> conv => whnf) | fail
    refine loop_atR Tryz.tabOk mixOrd (α := Nat) (fun x => [(26, dint x), (6, .undef), (28, .undef), (29, .undef), (30, .undef), (31, .undef), (33, .undef), (35, .undef), (36, .undef), (37, .undef), (38, .undef), (39, .undef)]) (fun x => [(3, some ⟨true, 1, [.ref 6 [] 1 0 (L ++ extR p good n u x).length]⟩), (5, none), (6, some ⟨false, 1, rows true (L ++ extR p good n u x)⟩)]) (fun x => x ≤ p) (fun x => p - x) (0) ?_ ?_ ?_
    · omega
    · conv => whnf
      first | refine WeakS.autoR ?_ | refine Weak.autoR ?_
      conv => whnf
      repeat' ((first | exact trivial | refine And.intro rfl ?_ | refine And.intro (eqV_int vAr) ?_ | refine And.intro vOb ?_ | refine And.intro vRepl ?_ | refine And.intro vReplL ?_ | refine And.intro ?_ ?_) <;> try (conv => whnf))
      all_goals simp [extR_zero]
    intro x hx
    conv => whnf
    have hx1 := hlen x
    by_cases hxp : x < p
    · have h1 : (u ++ [(x : Int)]).length + n = q := by simp; omega
      have h2 : ∀ y ∈ u ++ [(x : Int)], 0 ≤ y ∧ y < (p : Int) := fun y hy => by
        rcases List.mem_append.1 hy with hy | hy
        · exact hb y hy
        · have : y = x := by simpa using hy
          omega
      have h3 : (L ++ extR p good n u x).length + p ^ n ≤ 1000000 := by
        have h4 : (x + 1) * p ^ n ≤ p * p ^ n := Nat.mul_le_mul_right _ hxp
        rw [Nat.succ_mul] at h4
        rw [Nat.pow_succ, Nat.mul_comm] at hL
        rw [List.length_append]; omega
      have ih := c_extend p q hp hq d2 d3 d4 g  good hf n (u ++ [(x : Int)]) (L ++ extR p good n u x) h1 h2 h3
      repeat' first | ((refine borF_of 0 9 (xs' := ints (u ++ [(x : Int)])) rfl rfl (app_len1 u x) (app_frz1 u x) ?_; refine borD_of [1, 2, 3, 4, 6] ih (by decide) ?_ (by simp) ?_; (focus ((conv => whnf); (repeat' ((first | exact trivial | refine And.intro rfl ?_ | refine And.intro (eqV_int vAr) ?_ | refine And.intro vOb ?_) <;> (conv => whnf))); done)); conv => whnf)) | ((first | refine And.intro (Or.inl rfl) ?_ | (apply Exists.intro; refine And.intro (rfl) ?_) | (refine And.intro (fun h => ?_) (fun h => ?_) <;> (try simp only [cnt1, ints_length] at h) <;> first | (exfalso; omega) | skip) | refine And.intro (show slotsOk _ = true by decide +kernel) ?_ | refine And.intro vOb ?_ | (apply Exists.intro; refine And.intro vObt ?_) | (apply Exists.intro; refine And.intro vObx ?_) | refine And.intro vArT ?_ | refine And.intro (sub_cells1 u) ?_ | refine And.intro (sub_room1 u (by omega)) ?_ | refine And.intro (sub_cnt1 u _) ?_ | refine Or.inl ?_) <;> conv => whnf) | fail
      refine Exists.intro (x + 1) (And.intro (by omega) (And.intro (by omega) ?_))
      first | refine WeakS.autoR ?_ | refine Weak.autoR ?_
      conv => whnf
      repeat' ((first | exact trivial | refine And.intro rfl ?_ | refine And.intro (eqV_int vAr) ?_ | refine And.intro vOb ?_ | refine And.intro vRepl ?_ | refine And.intro vReplL ?_ | refine And.intro ?_ ?_) <;> try (conv => whnf))
      all_goals rw [extR_succ, List.append_assoc]
    repeat' first | ((first | refine And.intro (Or.inl rfl) ?_ | (apply Exists.intro; refine And.intro (rfl) ?_) | (refine And.intro (fun h => ?_) (fun h => ?_) <;> (try simp only [cnt1, ints_length] at h) <;> first | (exfalso; omega) | skip) | refine And.intro (show slotsOk _ = true by decide +kernel) ?_ | refine And.intro vOb ?_ | (apply Exists.intro; refine And.intro vObt ?_) | (apply Exists.intro; refine And.intro vObx ?_) | refine And.intro vArT ?_ | refine Or.inl ?_) <;> conv => whnf) | fail
    · have hxp : x = p := by omega
      subst hxp
      rw [extR_end]
      refine ⟨.tup [], none :: rtE (kerD x q d2 d3 d4) (.fn (.func g) [kerD x q d2 d3 d4] []) (L ++ ext x good (n + 1) u).length 6 ++ none :: [some ⟨false, 1, rows true (L ++ ext x good (n + 1) u)⟩], ⟨rfl, rfl⟩, Weak.of (kp := 6) [none, some 1, some 2, some 3, some 4, none, some 6] ?_⟩
      conv => whnf
      repeat' ((first | exact trivial | refine And.intro rfl ?_ | refine And.intro (eqV_int vAr) ?_ | refine And.intro vOb ?_ | refine And.intro ?_ ?_) <;> try (conv => whnf))
theorem c_extendD (p q : Nat) (hp : 2 ≤ p ∧ p ≤ 100) (hq : 1 ≤ q ∧ q ≤ 100) (d2 d3 d4 : D) (g : Nat) (e1 e2 : D) (good : List Int → Bool)
    (hf : ∀ u : List Int, u.length = q → (∀ x ∈ u, 0 ≤ x ∧ x < (p : Int)) → PureCall Tryz.prog g [.list false 1 (ints u), .cptr [e1] 0, .cptr [e2] 0] (dbool (good u))) :
    ∀ (n : Nat) (u : List Int) (L : List (List Int)), u.length + n = q → (∀ x ∈ u, 0 ≤ x ∧ x < (p : Int)) → L.length + p ^ n ≤ 1000000 →
    CallsTo Tryz.prog 55 6 [.list false 1 (ints u), .ptr 1 [] 0, .ptr 2 [] 0, .ptr 3 [] 0, .ptr 4 [] 0]
      (none :: rtE (kerD p q d2 d3 d4) (.fn (.func g) [] [.cptr [e1] 0, .cptr [e2] 0]) L.length 5 ++ [some ⟨false, 1, rows true L⟩])
      (fun d rt => d = .tup [] ∧ rt = (none :: rtE (kerD p q d2 d3 d4) (.fn (.func g) [] [.cptr [e1] 0, .cptr [e2] 0]) (L ++ ext p good n u).length 6 ++ none :: [some ⟨false, 1, rows true (L ++ ext p good n u)⟩]))
  | 0, u, L, hu, hb, hL => by
    have key := hf u (by omega) hb
    refine callsTo_of Tryz.tabOk mixOrd 6 _ Tryz.func55 rfl rfl ?_
    conv => whnf
    repeat' first | ((first | refine And.intro (Or.inl rfl) ?_ | (apply Exists.intro; refine And.intro (rfl) ?_) | (apply Exists.intro; refine And.intro (key) ?_) | (apply Exists.intro; refine And.intro (c_copyOfE _ u (by omega)) ?_) | (refine And.intro (fun h => ?_) (fun h => ?_) <;> (try simp only [cnt1, ints_length] at h) <;> first | (exfalso; omega) | skip) | refine And.intro (show slotsOk _ = true by decide +kernel) ?_ | refine And.intro vOb ?_ | (apply Exists.intro; refine And.intro vObt ?_) | (apply Exists.intro; refine And.intro vObx ?_) | refine And.intro vArT ?_ | refine And.intro ((by simp)) ?_ | refine And.intro (one_lst _ _ _) ?_ | refine And.intro (rows_plain _) ?_ | refine Or.inl ?_) <;> conv => whnf) | fail
    · have hg : good u = true := by assumption
      have e : L ++ ext p good 0 u = L ++ [u] := by rw [ext, if_pos hg]
      rw [e, List.length_append, List.length_singleton]
      refine ⟨.tup [], none :: rtE (kerD p q d2 d3 d4) (.fn (.func g) [] [.cptr [e1] 0, .cptr [e2] 0]) (L.length + 1) 6 ++ none :: [some ⟨false, 1, rows true (L ++ [u])⟩], ⟨rfl, rfl⟩, Weak.of (kp := 6) [none, some 1, some 2, some 3, some 4, none, some 9] ?_⟩
      conv => whnf
      repeat' ((first | exact trivial | refine And.intro rfl ?_ | refine And.intro (eqV_int vAr) ?_ | refine And.intro vOb ?_ | refine And.intro ?_ ?_) <;> try (conv => whnf))
      all_goals exact rows_snoc1 L u
    · have hg : good u = false := by assumption
      have e : L ++ ext p good 0 u = L := by rw [ext, if_neg (by rw [hg]; exact Bool.false_ne_true), List.append_nil]
      rw [e]
      refine ⟨.tup [], none :: rtE (kerD p q d2 d3 d4) (.fn (.func g) [] [.cptr [e1] 0, .cptr [e2] 0]) L.length 6 ++ none :: [some ⟨false, 1, rows true L⟩], ⟨rfl, rfl⟩, Weak.of (kp := 6) [none, some 1, some 2, some 3, some 4, none, some 5] ?_⟩
      conv => whnf
      repeat' ((first | exact trivial | refine And.intro rfl ?_ | refine And.intro (eqV_int vAr) ?_ | refine And.intro vOb ?_ | refine And.intro ?_ ?_) <;> try (conv => whnf))
  | n + 1, u, L, hu, hb, hL => by
    refine callsTo_of Tryz.tabOk mixOrd 6 _ Tryz.func55 rfl rfl ?_
    conv => whnf
    have hpow : p * p ^ n ≤ 1000000 := by rw [Nat.pow_succ, Nat.mul_comm] at hL; omega
    have hlen := extR_len (p := p) (by omega) good n u
    repeat' first | ((first | refine And.intro (Or.inl rfl) ?_ | (apply Exists.intro; refine And.intro (rfl) ?_) | (refine And.intro (fun h => ?_) (fun h => ?_) <;> (try simp only [cnt1, ints_length] at h) <;> first | (exfalso; omega) | skip) | refine And.intro (show slotsOk _ = true by decide +kernel) ?_ | refine And.intro vOb ?_ | (apply Exists.intro; refine And.intro vObt ?_) | (apply Exists.intro; refine And.intro vObx ?_) | refine And.intro vArT ?_ | refine Or.inl ?_) <;> conv => whnf) | fail
    refine loop_atR Tryz.tabOk mixOrd (α := Nat) (fun x => [(26, dint x), (6, .undef), (28, .undef), (29, .undef), (30, .undef), (31, .undef), (33, .undef), (35, .undef), (36, .undef), (37, .undef), (38, .undef), (39, .undef)]) (fun x => [(3, some ⟨true, 1, [.ref 6 [] 1 0 (L ++ extR p good n u x).length]⟩), (5, none), (6, some ⟨false, 1, rows true (L ++ extR p good n u x)⟩)]) (fun x => x ≤ p) (fun x => p - x) (0) ?_ ?_ ?_
    · omega
    · conv => whnf
      first | refine WeakS.autoR ?_ | refine Weak.autoR ?_
      conv => whnf
      repeat' ((first | exact trivial | refine And.intro rfl ?_ | refine And.intro (eqV_int vAr) ?_ | refine And.intro vOb ?_ | refine And.intro vRepl ?_ | refine And.intro vReplL ?_ | refine And.intro ?_ ?_) <;> try (conv => whnf))
      all_goals simp [extR_zero]
    intro x hx
    conv => whnf
    have hx1 := hlen x
    by_cases hxp : x < p
    · have h1 : (u ++ [(x : Int)]).length + n = q := by simp; omega
      have h2 : ∀ y ∈ u ++ [(x : Int)], 0 ≤ y ∧ y < (p : Int) := fun y hy => by
        rcases List.mem_append.1 hy with hy | hy
        · exact hb y hy
        · have : y = x := by simpa using hy
          omega
      have h3 : (L ++ extR p good n u x).length + p ^ n ≤ 1000000 := by
        have h4 : (x + 1) * p ^ n ≤ p * p ^ n := Nat.mul_le_mul_right _ hxp
        rw [Nat.succ_mul] at h4
        rw [Nat.pow_succ, Nat.mul_comm] at hL
        rw [List.length_append]; omega
      have ih := c_extendD p q hp hq d2 d3 d4 g e1 e2 good hf n (u ++ [(x : Int)]) (L ++ extR p good n u x) h1 h2 h3
      repeat' first | ((refine borF_of 0 9 (xs' := ints (u ++ [(x : Int)])) rfl rfl (app_len1 u x) (app_frz1 u x) ?_; refine borD_of [1, 2, 3, 4, 6] ih (by decide) ?_ (by simp) ?_; (focus ((conv => whnf); (repeat' ((first | exact trivial | refine And.intro rfl ?_ | refine And.intro (eqV_int vAr) ?_ | refine And.intro vOb ?_) <;> (conv => whnf))); done)); conv => whnf)) | ((first | refine And.intro (Or.inl rfl) ?_ | (apply Exists.intro; refine And.intro (rfl) ?_) | (refine And.intro (fun h => ?_) (fun h => ?_) <;> (try simp only [cnt1, ints_length] at h) <;> first | (exfalso; omega) | skip) | refine And.intro (show slotsOk _ = true by decide +kernel) ?_ | refine And.intro vOb ?_ | (apply Exists.intro; refine And.intro vObt ?_) | (apply Exists.intro; refine And.intro vObx ?_) | refine And.intro vArT ?_ | refine And.intro (sub_cells1 u) ?_ | refine And.intro (sub_room1 u (by omega)) ?_ | refine And.intro (sub_cnt1 u _) ?_ | refine Or.inl ?_) <;> conv => whnf) | fail
      refine Exists.intro (x + 1) (And.intro (by omega) (And.intro (by omega) ?_))
      first | refine WeakS.autoR ?_ | refine Weak.autoR ?_
      conv => whnf
      repeat' ((first | exact trivial | refine And.intro rfl ?_ | refine And.intro (eqV_int vAr) ?_ | refine And.intro vOb ?_ | refine And.intro vRepl ?_ | refine And.intro vReplL ?_ | refine And.intro ?_ ?_) <;> try (conv => whnf))
      all_goals rw [extR_succ, List.append_assoc]
    repeat' first | ((first | refine And.intro (Or.inl rfl) ?_ | (apply Exists.intro; refine And.intro (rfl) ?_) | (refine And.intro (fun h => ?_) (fun h => ?_) <;> (try simp only [cnt1, ints_length] at h) <;> first | (exfalso; omega) | skip) | refine And.intro (show slotsOk _ = true by decide +kernel) ?_ | refine And.intro vOb ?_ | (apply Exists.intro; refine And.intro vObt ?_) | (apply Exists.intro; refine And.intro vObx ?_) | refine And.intro vArT ?_ | refine Or.inl ?_) <;> conv => whnf) | fail
    · have hxp : x = p := by omega
      subst hxp
      rw [extR_end]
      refine ⟨.tup [], none :: rtE (kerD x q d2 d3 d4) (.fn (.func g) [] [.cptr [e1] 0, .cptr [e2] 0]) (L ++ ext x good (n + 1) u).length 6 ++ none :: [some ⟨false, 1, rows true (L ++ ext x good (n + 1) u)⟩], ⟨rfl, rfl⟩, Weak.of (kp := 6) [none, some 1, some 2, some 3, some 4, none, some 6] ?_⟩
      conv => whnf
      repeat' ((first | exact trivial | refine And.intro rfl ?_ | refine And.intro (eqV_int vAr) ?_ | refine And.intro vOb ?_ | refine And.intro ?_ ?_) <;> try (conv => whnf))
end Go.Proofs

