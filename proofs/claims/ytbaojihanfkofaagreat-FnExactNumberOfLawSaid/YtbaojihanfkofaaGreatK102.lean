/- Numbers modulo m from those modulo powers of primes: the program's way. -/
-- tables
-- rec
import Derived.Test.YtbaojihanfkofaaGreatK89
import Derived.Test.YtbaojihanfkofaaGreatK81
import Derived.Test.YtbaojihanfkofaaGreatK27
import Derived.Test.YtbaojihanfkofaaGreatK86
import Derived.Test.YtbaojihanfkofaaGreatK93
import Derived.Test.YtbaojihanfkofaaGreatK94
namespace Go.Proofs
open Go Go.Vm Go.Fg Go.Fg.PS
set_option maxRecDepth 100000
set_option maxHeartbeats 4000000
set_option linter.unusedSimpArgs false
set_option linter.unusedVariables false
variable {m : Int}
theorem sideL_b {n w a b c : Nat} {q : Int} (hq : 0 < q) (k : Nat) : 0 ≤ (sideL n q w a b c).getD k 0 ∧ (sideL n q w a b c).getD k 0 < q := by
  have zb : ∀ k, 0 ≤ (List.replicate w (0 : Int)).getD k 0 ∧ (List.replicate w (0 : Int)).getD k 0 < q := fun k => by rw [zero_getD]; omega
  have h1 : ∀ k, 0 ≤ (if a = 0 then addL n q (List.replicate w 0) b 1 else List.replicate w 0).getD k 0 ∧ (if a = 0 then addL n q (List.replicate w 0) b 1 else List.replicate w 0).getD k 0 < q := by
    split
    · exact addL_b hq zb b 1
    · exact zb
  have h3 := addL_b (n := n) hq (addL_b (n := n) hq h1 a (bin (b + c) b : Nat)) (a + b) (0 - (bin (a + b) a : Nat))
  unfold sideL
  simp only
  split
  · exact addL_b hq h3 a (-1) k
  · exact h3 k
theorem rowT_b (f : PS (PS (Zm m))) {n N H a b : Nat} {q : Int} (hm : 0 < m) (hq : 0 < q) (k : Nat) : 0 ≤ (rowT f n N H q a b).getD k 0 ∧ (rowT f n N H q a b).getD k 0 < q := by
  unfold rowT
  rw [getD_setN]
  split
  · have h1 := (Zm.val_range hm (lft f N a b (n - a - b) - rgt f N a b (n - a - b))).1
    exact ⟨Int.tmod_nonneg q h1, Int.tmod_lt_of_pos _ hq⟩
  · exact sideL_b hq k
abbrev rtW (m : Int) (f : PS (PS (Zm m))) (n N H : Nat) : List (Option Root) := [some ⟨true, 1, [dint n]⟩, some ⟨true, 1, [dint H]⟩, some ⟨true, 1, [cloD m f N]⟩]
theorem c_some1 (hm : Md m) (p e : Nat) (hp : 2 ≤ p) (hpr : ∀ d, d ∣ p → d = 1 ∨ d = p) (he : 1 ≤ e) {q : Int} (hqe : q = (p ^ e : Nat)) (hq : Md q) (hqm : q ∣ m) (n N H : Nat) (hn : 2 ≤ n ∧ n ≤ 10) (hN : N = n + 1) (hh : H = n / 2) (f : PS (PS (Zm m))) (L : Lw f n) :
    CallsTo Tryz.prog 69 4 [dint p, dint q, .ptr 1 [] 0, .ptr 2 [] 0, .ptr 3 [] 0] (none :: rtW m f n N H)
      (fun d rt => ∃ X : Nat → Int, (∀ i, i < H → 0 ≤ X i ∧ X i < q) ∧ EqX f n q X ∧ d = .ref 4 [] 1 0 H ∧ rt = none :: rtW m f n N H ++ [some ⟨false, 1, ints (lM H X)⟩]) := by
  have hm1 := hq.1
  have hm2 := hq.2
  obtain ⟨Y, hY⟩ := eqX_ex hm.pos L hn hqm
  have hY2 := (sol_iff (N := N) (H := H) hq.pos hm.pos hN hh L.z0 Y).2 hY
  have eR : rows true (rowsA f n N H q (n + 1)) = rows true (tM (rowsA f n N H q (n + 1)).length (H + 1) (mOf (rowsA f n N H q (n + 1)))) := by
    rw [tM_of (fun r hr => by obtain ⟨a, b, -, -, rfl⟩ := mem_rowsA.1 hr; exact rowT_len _ _ _ _ _ _ _)]
  have hR : ∀ i j, i < (rowsA f n N H q (n + 1)).length → j ≤ H → 0 ≤ mOf (rowsA f n N H q (n + 1)) i j ∧ mOf (rowsA f n N H q (n + 1)) i j < q := fun i j hi _ => by
    unfold mOf
    rw [List.getD_eq_getElem?_getD (l := rowsA f n N H q (n + 1)), List.getElem?_eq_getElem hi, Option.getD_some]
    obtain ⟨a, b, -, -, h3⟩ := mem_rowsA.1 (List.getElem_mem hi)
    rw [h3]
    exact rowT_b f hm.pos hq.pos j
  have hlen : (rowsA f n N H q (n + 1)).length ≤ 1000 := by
    have h1 := rowsA_len f n N H q (n + 1)
    have h3 : (n + 1) * (n + 1) ≤ 11 * 11 := Nat.mul_le_mul (by omega) (by omega)
    omega
  refine callsTo_of Tryz.tabOk mixOrd 4 _ Tryz.func69 rfl rfl ?_
  conv => whnf
  repeat' first | (refine borD_of [1, 2, 4, 3, 6, 5] (c_triples hm hq n N H hn hN hh f) (by decide) ?_ (by simp) ?_; (focus ((conv => whnf); (repeat' ((first | exact trivial | refine And.intro rfl ?_ | refine And.intro (eqV_int vAr) ?_ | refine And.intro vOb ?_) <;> (conv => whnf))); done)); conv => whnf) | (refine bor_of [7] (c_local p e hp hpr he hqe hq (rowsA f n N H q (n + 1)).length H hlen (by omega) (mOf (rowsA f n N H q (n + 1))) hR Y hY2) (by decide) ?_ (fun d rt' hd => ?_); (focus ((conv => whnf); (repeat' ((first | exact trivial | refine And.intro rfl ?_ | refine And.intro (eqV_int vAr) ?_ | refine And.intro vOb ?_) <;> (conv => whnf))); done))) | ((first | refine And.intro (Or.inl rfl) ?_ | (refine And.intro (fun h => ?_) (fun h => ?_) <;> (try simp only [cnt1, ints_length] at h)) | refine And.intro (show slotsOk _ = true by decide +kernel) ?_ | refine And.intro vOb ?_ | (apply Exists.intro; refine And.intro vObt ?_) | (apply Exists.intro; refine And.intro vObx ?_) | refine And.intro vArT ?_ | refine Or.inl ?_) <;> conv => whnf) | fail
  obtain ⟨X, hX, hsol, rfl, rfl⟩ := hd
  refine ⟨rfl, by simp, ?_⟩
  conv => whnf
  repeat' first | ((first | refine And.intro (Or.inl rfl) ?_ | (refine And.intro (fun h => ?_) (fun h => ?_) <;> (try simp only [cnt1, ints_length] at h)) | refine And.intro (show slotsOk _ = true by decide +kernel) ?_ | refine And.intro vOb ?_ | (apply Exists.intro; refine And.intro vObt ?_) | (apply Exists.intro; refine And.intro vObx ?_) | refine And.intro vArT ?_ | refine Or.inl ?_) <;> conv => whnf) | fail
  have hE := (sol_iff (N := N) (H := H) hq.pos hm.pos hN hh L.z0 X).1 hsol
  refine ⟨.ref 4 [] 1 0 H, none :: rtW m f n N H ++ [some ⟨false, 1, ints (lM H X)⟩], ⟨X, hX, hE, rfl, rfl⟩, Weak.of (kp := 4) [none, some 1, some 2, some 3, some 8] ?_⟩
  conv => whnf
  repeat' ((first | exact trivial | refine And.intro rfl ?_ | refine And.intro (eqV_int vAr) ?_ | refine And.intro vOb ?_ | refine And.intro ?_ ?_) <;> try (conv => whnf))
theorem c_defectsOfT (hm : Md m) (o p : Bool) (N : Nat) (hN : 1 ≤ N ∧ N ≤ 100) (f : PS (PS (Zm m))) : CallsTo Tryz.prog 65 1 [PlD m o p N f] [none]
    (fun d rt => d = .fn (.func 89) [] [.ptr 1 [] 0, .ptr 2 [] 0, .ptr 3 [] 0] ∧ rt = [none, some ⟨true, 1, [dint ((N : Int) - 1)]⟩, some ⟨true, 1, [dint m, .list o 1 (rows p (Tb N f))]⟩, some ⟨true, 1, [.ref 4 [] 2 0 N]⟩, some ⟨false, 2, pls N f N⟩]) := by
  refine callsTo_of Tryz.tabOk mixOrd 1 _ Tryz.func65 rfl rfl ?_
  conv => whnf
  repeat' first | ((first | refine And.intro (Or.inl rfl) ?_ | (apply Exists.intro; refine And.intro (c_powersP hm _ _ N vAr _) ?_) | (apply Exists.intro; refine And.intro (c_degreeP _ _ _ vAr _) ?_) | (refine And.intro (fun h => ?_) (fun h => ?_) <;> (try simp only [cnt1, ints_length] at h)) | refine And.intro (show slotsOk _ = true by decide +kernel) ?_ | refine And.intro vOb ?_ | (apply Exists.intro; refine And.intro vObt ?_) | (apply Exists.intro; refine And.intro vObx ?_) | refine And.intro vArT ?_ | refine Or.inl ?_) <;> conv => whnf) | fail
  refine ⟨.fn (.func 89) [] [.ptr 1 [] 0, .ptr 2 [] 0, .ptr 3 [] 0], [none, some ⟨true, 1, [dint ((N : Int) - 1)]⟩, some ⟨true, 1, [dint m, .list o 1 (rows p (Tb N f))]⟩, some ⟨true, 1, [.ref 4 [] 2 0 N]⟩, some ⟨false, 2, pls N f N⟩], ⟨rfl, rfl⟩, Weak.of (kp := 1) [none, some 5, some 1, some 4, some 2] ?_⟩
  conv => whnf
  repeat' ((first | exact trivial | refine And.intro rfl ?_ | refine And.intro (eqV_int vAr) ?_ | refine And.intro vOb ?_ | refine And.intro ?_ ?_) <;> try (conv => whnf))
  all_goals exact pls_cnt _ _ _
theorem c_defectsOf (hm : Md m) (p : Bool) (N : Nat) (hN : 1 ≤ N ∧ N ≤ 100) (f : PS (PS (Zm m))) : ShareCall Tryz.prog 65 [PlD m false true N f] (cloD m f N) := by
  refine share_of (c_defectsOfT hm false true N hN f) (fun w0 env tm w own v ok hs hmt hok hl => ?_)
  obtain ⟨first, caps, rfl, h1, h2, hr1, hr2⟩ := hmt.fn_inv
  refine .fn _ _ _ _ _ h1 h2 (fun i d u hd hu => by simp at hd) (fun i d u hd hu => ?_)
  have hlr : ∀ r R, rtOf [none, some ⟨true, 1, [dint ((N : Int) - 1)]⟩, some ⟨true, 1, [dint m, .list false 1 (rows true (Tb N f))]⟩, some ⟨true, 1, [.ref 4 [] 2 0 N]⟩, some ⟨false, 2, pls N f N⟩] r = some (some R) → ∀ b p, own b = some (r, p) → ok b := fun r R hR b p hb => hl b r p R hb hR
  match i, hd with
  | 0, hd =>
    simp at hd; subst hd
    refine hs.cptr (hlr 1 _ rfl) rfl (hr2 0 _ u rfl hu) rfl (fun i d d' u k1 k2 k3 => ?_)
    match i, k1, k2 with
    | 0, k1, k2 =>
      simp at k1 k2; subst k1; subst k2
      rw [k3.lit_inv]; exact .lit _
    | i + 1, k1, k2 => simp at k1
  | 1, hd =>
    simp at hd; subst hd
    refine hs.cptr (hlr 2 _ rfl) rfl (hr2 1 _ u rfl hu) rfl (fun i d d' u k1 k2 k3 => ?_)
    match i, k1, k2 with
    | 0, k1, k2 =>
      simp at k1 k2; subst k1; subst k2
      rw [k3.lit_inv]; exact .lit _
    | 1, k1, k2 =>
      simp at k1 k2; subst k1; subst k2
      exact k3.list_inv.frame (fun b hb => ⟨hok b hb, rfl⟩)
    | i + 2, k1, k2 => simp at k1
  | 2, hd =>
    simp at hd; subst hd
    refine hs.cptr (hlr 3 _ rfl) rfl (hr2 2 _ u rfl hu) rfl (fun i d d' u k1 k2 k3 => ?_)
    match i, k1, k2 with
    | 0, k1, k2 =>
      simp at k1 k2; subst k1; subst k2
      exact hs.listSh hok (hlr 4 _ rfl) rfl k3 (by rw [pls_length]; omega) false
    | i + 1, k1, k2 => simp at k1
  | i + 3, hd => simp at hd
theorem facL_at {l : List (Nat × Nat)} {k p e : Nat} (h : k < l.length) (hp : l[k].1 = p) (he : l[k].2 = e) : (facL l).getD k [] = [(p : Int), (e : Int)] := by
  subst hp; subst he; simp [facL, h]
theorem vFacR {l : List (Nat × Nat)} {q k p e : Nat} (e0 : q = k) (h : k < l.length) (hp : l[k].1 = p) (he : l[k].2 = e) : LoadRow (rows true (facL l)) [] q (.list true 1 (ints [(p : Int), (e : Int)])) := by
  subst e0
  have h1 := load_row (t := facL l) (i := q) (by simpa [facL] using h)
  rwa [facL_at h hp he] at h1
theorem vFac0 {l : List (Nat × Nat)} {q k p e : Nat} (e0 : q = k) (h : k < l.length) (hp : l[k].1 = p) (he : l[k].2 = e) : LoadRow (rows true (facL l)) ([] ++ [q]) 0 (dint (p : Int)) := by
  subst e0
  have h2 := facL_at h hp he
  have h1 := load_rows (t := facL l) (i := q) (j := 0) (by simpa [facL] using h) (by rw [h2]; simp)
  rwa [h2] at h1
theorem vFac1 {l : List (Nat × Nat)} {q k p e : Nat} (e0 : q = k) (h : k < l.length) (hp : l[k].1 = p) (he : l[k].2 = e) : LoadRow (rows true (facL l)) ([] ++ [q]) 1 (dint (e : Int)) := by
  subst e0
  have h2 := facL_at h hp he
  have h1 := load_rows (t := facL l) (i := q) (j := 1) (by simpa [facL] using h) (by rw [h2]; simp)
  rwa [h2] at h1
def mixZ (Z Y : Nat → Int) (i : Nat) : Nat → Int := fun j => if j < i then Z j else Y j
theorem mixZ_end (w : Nat) (Z Y : Nat → Int) : lM w (mixZ Z Y w) = lM w Z := lM_congr (fun j hj => if_pos hj)
theorem mixZ_start (w : Nat) (Z Y : Nat → Int) : lM w Y = lM w (mixZ Z Y 0) := lM_congr (fun j hj => (if_neg (by omega)).symm)
theorem vLoadJ {w q i : Nat} {Z Y : Nat → Int} (e : q = i) (h : i < w) : LoadRow (ints (lM w (mixZ Z Y i))) [] q (dint (Y i)) := by
  subst e
  have h1 := ints_at (lM_get (mixZ Z Y q) h)
  rw [show mixZ Z Y q q = Y q from if_neg (by omega)] at h1
  exact ⟨_, rfl, h1⟩
theorem vStoreJ {w q i : Nat} {Z Y : Nat → Int} {x : Int} (hx : x = Z i) (e : q = i) (h : i < w) : StoreRow (ints (lM w (mixZ Z Y i))) [] q (dint x) (ints (lM w (mixZ Z Y (i + 1)))) := by
  subst e; subst hx
  have h1 := StoreRow.ints (l := lM w (mixZ Z Y q)) (i := q) (Z q) (by simpa using h)
  rw [lM_set] at h1
  have e0 : lM w (fun j => if j = q then Z q else mixZ Z Y q j) = lM w (mixZ Z Y (q + 1)) := lM_congr (fun j hj => by
    show (if j = q then Z q else if j < q then Z j else Y j) = if j < q + 1 then Z j else Y j
    by_cases e : j = q
    · rw [if_pos e, if_pos (by omega), e]
    · rw [if_neg e]
      by_cases e2 : j < q
      · rw [if_pos e2, if_pos (by omega)]
      · rw [if_neg e2, if_neg (by omega)])
  rwa [e0] at h1
theorem c_factorsI (hm : Md m) : CallsTo Tryz.prog 91 1 [dint m] [none]
    (fun d rt => ∃ l : List (Nat × Nat), facP l = m.toNat ∧ (∀ x ∈ l, PrimeN x.1 ∧ 1 ≤ x.2) ∧ l.Pairwise (fun x y => x.1 < y.1) ∧ l.length ≤ 64 ∧ d = .ref 1 [] 1 0 l.length ∧ rt = [none, some ⟨false, 1, rows true (facL l)⟩]) := by
  have h1 := hm.1
  have h2 := hm.2
  have := c_factors m.toNat ⟨by omega, by omega⟩
  rwa [Int.toNat_of_nonneg (show 0 ≤ m by omega)] at this
theorem c_together (hm : Md m) (n N H : Nat) (hn : 2 ≤ n ∧ n ≤ 10) (hN : N = n + 1) (hh : H = n / 2) (f : PS (PS (Zm m))) (L : Lw f n) :
    CallsTo Tryz.prog 68 4 [dint m, dint H, .fn (.func 69) [] [.ptr 1 [] 0, .ptr 2 [] 0, .ptr 3 [] 0]] (none :: rtW m f n N H)
      (fun d rt => ∃ Y : Nat → Int, (∀ i, i < H → 0 ≤ Y i ∧ Y i < m) ∧ EqX f n m Y ∧ d = .ref 4 [] 1 0 H ∧ rt = none :: rtW m f n N H ++ [some ⟨false, 1, ints (lM H Y)⟩]) := by
  have hm1 := hm.1
  have hm2 := hm.2
  refine callsTo_of Tryz.tabOk mixOrd 4 _ Tryz.func68 rfl rfl ?_
  conv => whnf
  repeat' first | (refine bor_of [] (c_factorsI hm) (by decide) ?_ (fun d rt' hd => ?_); (focus ((conv => whnf); (repeat' ((first | exact trivial | refine And.intro rfl ?_ | refine And.intro (eqV_int vAr) ?_ | refine And.intro vOb ?_) <;> (conv => whnf))); done))) | ((first | refine And.intro (Or.inl rfl) ?_ | (refine And.intro (fun h => ?_) (fun h => ?_) <;> (try simp only [cnt1, ints_length] at h)) | refine And.intro (show slotsOk _ = true by decide +kernel) ?_ | refine And.intro vOb ?_ | (apply Exists.intro; refine And.intro vObt ?_) | (apply Exists.intro; refine And.intro vObx ?_) | refine And.intro vArT ?_ | refine Or.inl ?_) <;> conv => whnf) | fail
  obtain ⟨l, hl, hg, hi, hlen, rfl, rfl⟩ := hd
  refine ⟨rfl, by simp, ?_⟩
  conv => whnf
  repeat' first | ((first | refine And.intro (Or.inl rfl) ?_ | (refine And.intro (fun h => ?_) (fun h => ?_) <;> (try simp only [cnt1, ints_length] at h)) | refine And.intro (show slotsOk _ = true by decide +kernel) ?_ | refine And.intro vOb ?_ | (apply Exists.intro; refine And.intro vObt ?_) | (apply Exists.intro; refine And.intro vObx ?_) | refine And.intro vArT ?_ | refine Or.inl ?_) <;> conv => whnf) | fail
  refine loop_atR Tryz.tabOk mixOrd (α := (Nat → Int) × Nat) (fun x => [(20, dint x.2), (8, dint ((facP (l.take x.2) : Nat) : Int)), (10, .undef), (12, .undef), (23, .undef), (24, .undef), (30, .undef), (36, .undef), (40, .undef), (46, .undef)]) (fun x => [(4, some ⟨false, 1, ints (lM H x.1)⟩)]) (fun x => x.2 ≤ l.length ∧ (∀ i, i < H → 0 ≤ x.1 i ∧ x.1 i < ((facP (l.take x.2) : Nat) : Int)) ∧ EqX f n ((facP (l.take x.2) : Nat) : Int) x.1) (fun x => l.length - x.2) ((fun _ => 0, 0)) ?_ ?_ ?_
  · exact ⟨by simp only; omega, fun i hi => by simp [facP], fun a b _ => Int.one_dvd _⟩
  · conv => whnf
    first | refine WeakS.autoR ?_ | refine Weak.autoR ?_
    conv => whnf
    repeat' ((first | exact trivial | refine And.intro rfl ?_ | refine And.intro (eqV_int vAr) ?_ | refine And.intro vOb ?_ | refine And.intro vRepl ?_ | refine And.intro vReplL ?_ | refine And.intro ?_ ?_) <;> try (conv => whnf))
    all_goals exact congrArg ints (lM_zeros H)
  intro ⟨Y, k⟩ ⟨hk, hb, hE⟩
  simp only at hk hb hE
  conv => whnf
  by_cases hkl : k < l.length
  · have F := facAt hl hg hi hkl
    have hdv0 := F.dv
    have hcop := F.cop
    have hnxt := F.nxt
    have he1 := F.he
    have hpp := F.hp
    clear F
    generalize hD : facP (l.take k) = Dn at *
    generalize hp : l[k].1 = p at *
    generalize he : l[k].2 = e at *
    have hD1 : 1 ≤ Dn := Nat.pos_of_ne_zero (fun e0 => by
      rw [e0, Nat.zero_mul] at hdv0
      have := Nat.eq_zero_of_zero_dvd hdv0
      omega)
    have hq1 : 2 ≤ p ^ e := by
      have h1 : p ^ 1 ≤ p ^ e := Nat.pow_le_pow_right (by have := hpp.1; omega) he1
      rw [Nat.pow_one] at h1
      have := hpp.1
      omega
    have hDq : Dn * p ^ e ≤ m.toNat := Nat.le_of_dvd (by omega) hdv0
    have hDm : Dn ≤ Dn * p ^ e := Nat.le_mul_of_pos_right Dn (by omega)
    have hqm : p ^ e ≤ Dn * p ^ e := Nat.le_mul_of_pos_left _ (by omega)
    have hpi : ∀ i, i ≤ e → p ^ i ≤ p ^ e := fun i h => Nat.pow_le_pow_right (by have := hpp.1; omega) h
    have hq : Md ((p ^ e : Nat) : Int) := ⟨by omega, by omega⟩
    have he64 : e ≤ 10000 := by
      have h1 : e < 2 ^ e := Nat.lt_two_pow_self
      have h2 : 2 ^ e ≤ p ^ e := Nat.pow_le_pow_left hpp.1 e
      omega
    have hdv : ((p ^ e : Nat) : Int) ∣ m := by
      have h1 := Int.natCast_dvd_natCast.2 (Nat.dvd_trans (Nat.dvd_mul_left (p ^ e) Dn) hdv0)
      rwa [Int.toNat_of_nonneg (show 0 ≤ m by omega)] at h1
    repeat' first | ((first | refine And.intro (Or.inl rfl) ?_ | (apply Exists.intro; refine And.intro (vFacR (k := k) vIx hkl hp he) ?_) | (apply Exists.intro; refine And.intro (vFac1 (k := k) vIx hkl hp he) ?_) | (refine And.intro (fun h => ?_) (fun h => ?_) <;> (try simp only [cnt1, ints_length, rows_length, Tb_length, lM_length, tM_length] at h) <;> first | (exfalso; omega) | skip) | refine And.intro (show slotsOk _ = true by decide +kernel) ?_ | refine And.intro vOb ?_ | (apply Exists.intro; refine And.intro vObt ?_) | (apply Exists.intro; refine And.intro vObx ?_) | refine And.intro vArT ?_ | refine And.intro (vMn) ?_ | refine Or.inl ?_) <;> conv => whnf) | fail
    refine loop_atR Tryz.tabOk mixOrd (α := Nat) (fun i => [(27, dint i), (11, dint ((p ^ i : Nat) : Int))]) (fun i => []) (fun i => i ≤ e) (fun i => e - i) (0) ?_ ?_ ?_
    · omega
    · conv => whnf
      first | refine WeakS.autoR ?_ | refine Weak.autoR ?_
      conv => whnf
      repeat' ((first | exact trivial | refine And.intro rfl ?_ | refine And.intro (eqV_int vAr) ?_ | refine And.intro vOb ?_ | refine And.intro vRepl ?_ | refine And.intro vReplL ?_ | refine And.intro ?_ ?_) <;> try (conv => whnf))
    intro i hie
    conv => whnf
    have hpw : ((p ^ i : Nat) : Int) * (p : Int) = ((p ^ (i + 1) : Nat) : Int) := by rw [Nat.pow_succ, Int.natCast_mul]
    by_cases hie2 : i < e
    · have h1 := hpi (i + 1) (by omega)
      have hr : inR .i64 (((p ^ i : Nat) : Int) * (p : Int)) := by rw [hpw]; exact inR_i64_nat (by omega)
      repeat' first | ((first | refine And.intro (Or.inl rfl) ?_ | (apply Exists.intro; refine And.intro (vFac0 (k := k) vIx hkl hp he) ?_) | (refine And.intro (fun h => ?_) (fun h => ?_) <;> (try simp only [cnt1, ints_length, rows_length, Tb_length, lM_length, tM_length] at h) <;> first | (exfalso; omega) | skip) | refine And.intro (show slotsOk _ = true by decide +kernel) ?_ | refine And.intro vOb ?_ | (apply Exists.intro; refine And.intro vObt ?_) | (apply Exists.intro; refine And.intro vObx ?_) | refine And.intro vArT ?_ | refine And.intro (hr) ?_ | refine And.intro (vMn) ?_ | refine Or.inl ?_) <;> conv => whnf) | fail
      refine Exists.intro (i + 1) (And.intro (by omega) (And.intro (by omega) ?_))
      first | refine WeakS.autoR ?_ | refine Weak.autoR ?_
      conv => whnf
      repeat' ((first | exact trivial | refine And.intro rfl ?_ | refine And.intro (eqV_int vAr) ?_ | refine And.intro vOb ?_ | refine And.intro vRepl ?_ | refine And.intro vReplL ?_ | refine And.intro ?_ ?_) <;> try (conv => whnf))
      all_goals exact hpw
    · have hie3 : i = e := by omega
      subst hie3
      repeat' first | (refine bor_of [1, 2, 3] (c_some1 hm p i hpp.1 hpp.2 he1 (q := ((p ^ i : Nat) : Int)) rfl hq hdv n N H hn hN hh f L) (by decide) ?_ (fun d rt' hd => ?_); (focus ((conv => whnf); (repeat' ((first | exact trivial | refine And.intro rfl ?_ | refine And.intro (eqV_int vAr) ?_ | refine And.intro vOb ?_) <;> (conv => whnf))); done))) | ((first | refine And.intro (Or.inl rfl) ?_ | (apply Exists.intro; refine And.intro (vFac0 (k := k) vIx hkl hp he) ?_) | (refine And.intro (fun h => ?_) (fun h => ?_) <;> (try simp only [cnt1, ints_length, rows_length, Tb_length, lM_length, tM_length] at h) <;> first | (exfalso; omega) | skip) | refine And.intro (show slotsOk _ = true by decide +kernel) ?_ | refine And.intro vOb ?_ | (apply Exists.intro; refine And.intro vObt ?_) | (apply Exists.intro; refine And.intro vObx ?_) | refine And.intro vArT ?_ | refine And.intro (vMn) ?_ | refine Or.inl ?_) <;> conv => whnf) | fail
      obtain ⟨X, hX, hEX, rfl, rfl⟩ := hd
      refine ⟨rfl, by simp, ?_⟩
      conv => whnf
      repeat' first | ((first | refine And.intro (Or.inl rfl) ?_ | (refine And.intro (fun h => ?_) (fun h => ?_) <;> (try simp only [cnt1, ints_length] at h)) | refine And.intro (show slotsOk _ = true by decide +kernel) ?_ | refine And.intro vOb ?_ | (apply Exists.intro; refine And.intro vObt ?_) | (apply Exists.intro; refine And.intro vObx ?_) | refine And.intro vArT ?_ | refine Or.inl ?_) <;> conv => whnf) | fail
      obtain ⟨q, hqe⟩ : ∃ q : Int, q = ((p ^ i : Nat) : Int) := ⟨_, rfl⟩
      obtain ⟨U, hU⟩ : ∃ U : Int, U = (invN ((p ^ i : Nat) : Int) ((Dn : Int) % ((p ^ i : Nat) : Int))).val := ⟨_, rfl⟩
      have hUr := Zm.val_range hq.pos (invN ((p ^ i : Nat) : Int) ((Dn : Int) % ((p ^ i : Nat) : Int)))
      rw [← hU] at hUr
      have hDt : (Dn : Int).tmod ((p ^ i : Nat) : Int) = (Dn : Int) % ((p ^ i : Nat) : Int) := Int.tmod_eq_emod_of_nonneg (by omega)
      refine loop_atR Tryz.tabOk mixOrd (α := Nat) (fun t => [(43, dint t)]) (fun t => [(4, some ⟨false, 1, ints (lM H (mixZ (joinX Dn ((p ^ i : Nat) : Int) U X Y) Y t))⟩)]) (fun t => t ≤ H) (fun t => H - t) (0) ?_ ?_ ?_
      · omega
      · conv => whnf
        first | refine WeakS.autoR ?_ | refine Weak.autoR ?_
        conv => whnf
        repeat' ((first | exact trivial | refine And.intro rfl ?_ | refine And.intro (eqV_int vAr) ?_ | refine And.intro vOb ?_ | refine And.intro vRepl ?_ | refine And.intro vReplL ?_ | refine And.intro ?_ ?_) <;> try (conv => whnf))
        all_goals exact congrArg ints (mixZ_start H _ Y)
      intro t htH
      conv => whnf
      by_cases htH2 : t < H
      · have hXt := hX t htH2
        have hYt := hb t htH2
        have s1 := Int.emod_nonneg (X t - Y t) (show ((p ^ i : Nat) : Int) ≠ 0 by omega)
        have s2 := Int.emod_lt_of_pos (X t - Y t) (show 0 < ((p ^ i : Nat) : Int) by omega)
        have y1 : 0 ≤ (X t - Y t) % ((p ^ i : Nat) : Int) * U := Int.mul_nonneg s1 hUr.1
        have y2 : (X t - Y t) % ((p ^ i : Nat) : Int) * U ≤ 10000 * 10000 := Int.mul_le_mul (by omega) (by omega) hUr.1 (by omega)
        have hst : ((X t - Y t) % ((p ^ i : Nat) : Int) * U).tmod ((p ^ i : Nat) : Int) = ((X t - Y t) % ((p ^ i : Nat) : Int) * U) % ((p ^ i : Nat) : Int) := Int.tmod_eq_emod_of_nonneg y1
        have t1 := Int.emod_nonneg ((X t - Y t) % ((p ^ i : Nat) : Int) * U) (show ((p ^ i : Nat) : Int) ≠ 0 by omega)
        have t2 := Int.emod_lt_of_pos ((X t - Y t) % ((p ^ i : Nat) : Int) * U) (show 0 < ((p ^ i : Nat) : Int) by omega)
        have z1 : 0 ≤ (Dn : Int) * (((X t - Y t) % ((p ^ i : Nat) : Int) * U).tmod ((p ^ i : Nat) : Int)) := by rw [hst]; exact Int.mul_nonneg (by omega) t1
        have z2 : (Dn : Int) * (((X t - Y t) % ((p ^ i : Nat) : Int) * U).tmod ((p ^ i : Nat) : Int)) ≤ 10000 * 10000 := by rw [hst]; exact Int.mul_le_mul (by omega) (by omega) t1 (by omega)
        have kinv := c_inverse hq ((Dn : Int) % ((p ^ i : Nat) : Int))
        rw [← hU, ← hDt] at kinv
        have hst1 := t1
        have hst2 := t2
        rw [← hst] at hst1 hst2
        have hx : Y t + (Dn : Int) * (((X t - Y t) % ((p ^ i : Nat) : Int) * U).tmod ((p ^ i : Nat) : Int)) = joinX Dn ((p ^ i : Nat) : Int) U X Y t := by rw [hst]; rfl
        repeat' first | ((first | refine And.intro (Or.inl rfl) ?_ | (apply Exists.intro; refine And.intro (vLoadN (w := H) (r := X) t vIx htH2) ?_) | (apply Exists.intro; refine And.intro (vLoadJ (i := t) vIx htH2) ?_) | (apply Exists.intro; refine And.intro (vStoreJ hx vIx htH2) ?_) | (apply Exists.intro; refine And.intro (c_mod _ _ hq.pos (by omega)) ?_) | (apply Exists.intro; refine And.intro (kinv) ?_) | (refine And.intro (fun h => ?_) (fun h => ?_) <;> (try simp only [cnt1, ints_length, rows_length, Tb_length, lM_length, tM_length] at h) <;> first | (exfalso; omega) | skip) | refine And.intro (show slotsOk _ = true by decide +kernel) ?_ | refine And.intro vOb ?_ | (apply Exists.intro; refine And.intro vObt ?_) | (apply Exists.intro; refine And.intro vObx ?_) | refine And.intro vArT ?_ | refine And.intro (vMn) ?_ | refine Or.inl ?_) <;> conv => whnf) | fail
        refine Exists.intro (t + 1) (And.intro (by omega) (And.intro (by omega) ?_))
        first | refine WeakS.autoR ?_ | refine Weak.autoR ?_
        conv => whnf
        repeat' ((first | exact trivial | refine And.intro rfl ?_ | refine And.intro (eqV_int vAr) ?_ | refine And.intro vOb ?_ | refine And.intro vRepl ?_ | refine And.intro vReplL ?_ | refine And.intro ?_ ?_) <;> try (conv => whnf))
      · have htH3 : t = H := by omega
        subst htH3
        rw [mixZ_end]
        obtain ⟨hJ1, hJ2⟩ := join_step hh hD1 hq1 hcop hEX hE hb hU
        have hrD : inR .i64 ((Dn : Int) * ((p ^ i : Nat) : Int)) := by rw [← Int.natCast_mul]; exact inR_i64_nat (by omega)
        repeat' first | ((first | refine And.intro (Or.inl rfl) ?_ | (refine And.intro (fun h => ?_) (fun h => ?_) <;> (try simp only [cnt1, ints_length, rows_length, Tb_length, lM_length, tM_length] at h) <;> first | (exfalso; omega) | skip) | refine And.intro (show slotsOk _ = true by decide +kernel) ?_ | refine And.intro vOb ?_ | (apply Exists.intro; refine And.intro vObt ?_) | (apply Exists.intro; refine And.intro vObx ?_) | refine And.intro vArT ?_ | refine And.intro (hrD) ?_ | refine And.intro (vMn) ?_ | refine Or.inl ?_) <;> conv => whnf) | fail
        refine Exists.intro (joinX Dn ((p ^ i : Nat) : Int) U X Y, k + 1) (And.intro ⟨by simp only; omega, by simp only; rw [hnxt]; exact hJ2, by simp only; rw [hnxt]; exact hJ1⟩ (And.intro (by simp only; omega) ?_))
        first | refine WeakS.autoR ?_ | refine Weak.autoR ?_
        conv => whnf
        repeat' ((first | exact trivial | refine And.intro rfl ?_ | refine And.intro (eqV_int vAr) ?_ | refine And.intro vOb ?_ | refine And.intro vRepl ?_ | refine And.intro vReplL ?_ | refine And.intro ?_ ?_) <;> try (conv => whnf))
        all_goals (rw [hnxt, Int.natCast_mul])
  · have hk2 : k = l.length := by omega
    subst hk2
    rw [List.take_length, hl, Int.toNat_of_nonneg (show 0 ≤ m by omega)] at hb hE
    repeat' first | ((first | refine And.intro (Or.inl rfl) ?_ | (refine And.intro (fun h => ?_) (fun h => ?_) <;> (try simp only [cnt1, ints_length, rows_length, Tb_length, lM_length, tM_length] at h) <;> first | (exfalso; omega) | skip) | refine And.intro (show slotsOk _ = true by decide +kernel) ?_ | refine And.intro vOb ?_ | (apply Exists.intro; refine And.intro vObt ?_) | (apply Exists.intro; refine And.intro vObx ?_) | refine And.intro vArT ?_ | refine Or.inl ?_) <;> conv => whnf) | fail
    refine ⟨.ref 4 [] 1 0 H, none :: rtW m f n N H ++ [some ⟨false, 1, ints (lM H Y)⟩], ⟨Y, hb, hE, rfl, rfl⟩, Weak.of (kp := 4) [none, some 1, some 2, some 3, some 4] ?_⟩
    conv => whnf
    repeat' ((first | exact trivial | refine And.intro rfl ?_ | refine And.intro (eqV_int vAr) ?_ | refine And.intro vOb ?_ | refine And.intro ?_ ?_) <;> try (conv => whnf))
end Go.Proofs

