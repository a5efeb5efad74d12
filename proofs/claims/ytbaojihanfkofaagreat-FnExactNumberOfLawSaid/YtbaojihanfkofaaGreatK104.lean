/- Linear equations modulo a power of a prime: loops of impl.local. -/
-- tables
-- rec
import Derived.Test.YtbaojihanfkofaaGreatK82
import Derived.Test.YtbaojihanfkofaaGreatK78
import Derived.Test.YtbaojihanfkofaaGreatK7
import Derived.Test.YtbaojihanfkofaaGreatK79
import Derived.Test.YtbaojihanfkofaaGreatVm32
namespace Go.Proofs
open Go Go.Vm Go.Fg Go.Fg.PS
set_option maxRecDepth 100000
set_option maxHeartbeats 40000000
set_option linter.unusedSimpArgs false
set_option linter.unusedVariables false
variable {m : Int}
theorem vMl {p : Prop} (h : p := by first | omega | (simp only [cnt1, rows_length, tM_length, lM_length, ints_length, Nat.mul_one, Nat.zero_add, place1] at *; first | done | omega)) : p := h
def addN (l new : List (Option Root)) : List (Option Root) := match new with
  | [] => l
  | x :: xs => l ++ x :: xs
theorem addN_eq (l new : List (Option Root)) : addN l new = l ++ new := by cases new <;> simp [addN]
noncomputable def drawP (P : Program) (T : Tab) (ops : List Oper) (l : List Oper) : St → (List Ent → List Ent) → (St → Prop) → Prop :=
  List.rec (motive := fun _ => St → (List Ent → List Ent) → (St → Prop) → Prop) (fun st log K => chk (okLog ops 0 (log [])) (K st))
    (fun o _ ih st log K => match guardOn ops o st.env with
      | some true => evK P T st.env (rtOf st.rt) st.rt.length o.op fun res => chk (wrOk st.rt res) (normB res.val fun d => forceL (setSlot st.env o.dst d) fun env => ih ⟨env, addN (wrL st.rt res.wr) res.new⟩ (fun l => log ({ dst := o.dst, val := d, res := res, n := st.rt.length } :: l)) K)
      | some false => forceL (setSlot st.env o.dst (.lit Go.undef)) fun env => ih ⟨env, st.rt⟩ (fun l => log ({ dst := o.dst, val := .lit Go.undef, res := { val := .undef }, n := st.rt.length } :: l)) K
      | none => False) l
theorem drawP_eq (P : Program) (T : Tab) (ops : List Oper) : ∀ (l : List Oper), drawP P T ops l = drawR P T ops l := by
  intro l
  induction l with
  | nil => rfl
  | cons o rest ih =>
    funext st log K
    have e : drawR P T ops (o :: rest) st log K = (match guardOn ops o st.env with
      | some true => runK P T o st fun d res => forceS (nextSt st o.dst d res) fun st' => drawR P T ops rest st' (fun l => log ({ dst := o.dst, val := d, res := res, n := st.rt.length } :: l)) K
      | some false => forceS ⟨setSlot st.env o.dst (.lit Go.undef), st.rt⟩ fun st' => drawR P T ops rest st' (fun l => log ({ dst := o.dst, val := .lit Go.undef, res := { val := .undef }, n := st.rt.length } :: l)) K
      | none => False) := rfl
    rw [e]
    have e2 : drawP P T ops (o :: rest) st log K = (match guardOn ops o st.env with
      | some true => evK P T st.env (rtOf st.rt) st.rt.length o.op fun res => chk (wrOk st.rt res) (normB res.val fun d => forceL (setSlot st.env o.dst d) fun env => drawP P T ops rest ⟨env, addN (wrL st.rt res.wr) res.new⟩ (fun l => log ({ dst := o.dst, val := d, res := res, n := st.rt.length } :: l)) K)
      | some false => forceL (setSlot st.env o.dst (.lit Go.undef)) fun env => drawP P T ops rest ⟨env, st.rt⟩ (fun l => log ({ dst := o.dst, val := .lit Go.undef, res := { val := .undef }, n := st.rt.length } :: l)) K
      | none => False) := rfl
    rw [e2]
    simp only [forceS_eq, forceL_eq, runK, forceN_eq, addN_eq, ← ih]
    rfl
theorem drawP_to {P : Program} {T : Tab} {ops l : List Oper} {st : St} {log : List Ent → List Ent} {K : St → Prop} (h : drawP P T ops l st log K) : drawR P T ops l st log K := by rw [← drawP_eq]; exact h
theorem optK_of {cs : List D} {off : Nat} {d : D} {k : D → Prop} (h : cs[off]? = some d) (hk : k d) : (match cs[off]? with
    | some d => k d
    | none => False) := by rw [h]; exact hk
theorem chk_of {b : Bool} {p : Prop} (h : b = true) (hp : p) : chk b p := by rw [h]; exact hp
theorem rfs_at3 {rows : List (List D)} {q i : Nat} (e : q = i) (h : i < rows.length) : (rfsD 3 rows)[q]? = some (.ref (i + 3) [] 1 0 (rows.getD i []).length) := by
  subst e; rw [rfsD_get h, Nat.add_comm]
theorem rfsD_length (n0 : Nat) (rows : List (List D)) : (rfsD n0 rows).length = rows.length := by simp [rfsD]
theorem rfs_ble {n0 : Nat} {rows : List (List D)} {q : Nat} (h : q < rows.length) : Nat.ble (q + 1) (rfsD n0 rows).length = true := by
  rw [Nat.ble_eq, rfsD_length]; exact h
theorem rfs_ble2 {n0 : Nat} {rows : List (List D)} {q i : Nat} {d : D} (h : q < rows.length) : Nat.ble (q + 1) ((rfsD n0 rows).set i d).length = true := by
  rw [Nat.ble_eq, List.length_set, rfsD_length]; exact h
def bI : Option (Nat × Nat) → Int
  | none => -1
  | some x => x.1
def bJ : Option (Nat × Nat) → Int
  | none => 0
  | some x => x.2
def bV (p : Nat) (M : Nat → Nat → Int) : Option (Nat × Nat) → Int
  | none => 0
  | some x => (valN p (M x.1 x.2).toNat : Nat)
def Scan (s u I J i j : Nat) : Prop := s ≤ i ∧ s ≤ j ∧ j < u ∧ (i < I ∨ i = I ∧ j < J)
def Best (p : Nat) (M : Nat → Nat → Int) (s u I J : Nat) : Option (Nat × Nat) → Prop
  | none => ∀ i j, Scan s u I J i j → M i j = 0
  | some x => Scan s u I J x.1 x.2 ∧ M x.1 x.2 ≠ 0 ∧ ∀ i j, Scan s u I J i j → M i j ≠ 0 → valN p (M x.1 x.2).toNat ≤ valN p (M i j).toNat
theorem Scan.next {s u I J i j : Nat} (h : Scan s u I (J + 1) i j) : Scan s u I J i j ∨ (i = I ∧ j = J) := by
  obtain ⟨h1, h2, h3, h4⟩ := h
  by_cases e : i = I ∧ j = J
  · exact .inr e
  · exact .inl ⟨h1, h2, h3, by omega⟩
theorem Scan.mono {s u I J i j : Nat} (h : Scan s u I J i j) : Scan s u I (J + 1) i j := ⟨h.1, h.2.1, h.2.2.1, by have := h.2.2.2; omega⟩
theorem Scan.row {s u I i j : Nat} : Scan s u I u i j ↔ Scan s u (I + 1) s i j := by
  unfold Scan; omega
section
variable {p s u I J : Nat} {M : Nat → Nat → Int}
theorem Best.zero : Best p M s u s s none := fun i j h => by obtain ⟨h1, h2, h3, h4⟩ := h; omega
theorem Best.row {b : Option (Nat × Nat)} (h : Best p M s u I u b) : Best p M s u (I + 1) s b := by
  cases b with
  | none => exact fun i j hs => h i j (Scan.row.2 hs)
  | some x => exact ⟨Scan.row.1 h.1, h.2.1, fun i j hs => h.2.2 i j (Scan.row.2 hs)⟩
theorem Best.skip {b : Option (Nat × Nat)} (h : Best p M s u I J b) (h0 : M I J = 0) : Best p M s u I (J + 1) b := by
  cases b with
  | none => exact fun i j hs => hs.next.elim (h i j) (fun e => by rw [e.1, e.2]; exact h0)
  | some x => exact ⟨h.1.mono, h.2.1, fun i j hs hne => hs.next.elim (fun k => h.2.2 i j k hne) (fun e => absurd h0 (by rw [← e.1, ← e.2]; exact hne))⟩
theorem Best.first (h : Best p M s u I J none) (h0 : M I J ≠ 0) (hs : s ≤ I ∧ s ≤ J ∧ J < u) : Best p M s u I (J + 1) (some (I, J)) :=
  ⟨⟨hs.1, hs.2.1, hs.2.2, by omega⟩, h0, fun i j hs hne => hs.next.elim (fun k => absurd (h i j k) hne) (fun e => by rw [e.1, e.2]; exact Nat.le_refl _)⟩
theorem Best.take {x : Nat × Nat} (h : Best p M s u I J (some x)) (h0 : M I J ≠ 0) (hs : s ≤ I ∧ s ≤ J ∧ J < u) (hv : valN p (M I J).toNat < valN p (M x.1 x.2).toNat) : Best p M s u I (J + 1) (some (I, J)) :=
  ⟨⟨hs.1, hs.2.1, hs.2.2, by omega⟩, h0, fun i j hs hne => hs.next.elim (fun k => by have := h.2.2 i j k hne; show valN p (M I J).toNat ≤ _; omega) (fun e => by rw [e.1, e.2]; exact Nat.le_refl _)⟩
theorem Best.keep {x : Nat × Nat} (h : Best p M s u I J (some x)) (hv : ¬ valN p (M I J).toNat < valN p (M x.1 x.2).toNat) : Best p M s u I (J + 1) (some x) :=
  ⟨h.1.mono, h.2.1, fun i j hs hne => hs.next.elim (fun k => h.2.2 i j k hne) (fun e => by rw [e.1, e.2]; omega)⟩
end
theorem vMat {N w i j q r : Nat} {M : Nat → Nat → Int} (e : q = i) (e2 : r = j) (h : i < N) (h2 : j < w) : LoadRow (rows true (tM N w M)) ([] ++ [q]) r (dint (M i j)) := by
  subst e; subst e2
  have h1 := load_rows (t := tM N w M) (i := q) (j := r) (by simpa using h) (by rw [tM_getD M h]; simpa using h2)
  rw [tM_getD M h, lM_getD (M q) h2] at h1
  exact h1
theorem vMatR {N w i q : Nat} {M : Nat → Nat → Int} (e : q = i) (h : i < N) : LoadRow (rows true (tM N w M)) [] q (.list true 1 (ints (lM w (M i)))) := by
  subst e
  rw [← tM_getD (w := w) M h]
  exact load_row (by simpa using h)
theorem lst_rows (t : List (List Int)) : (t.map ints).map lstD = rows true t := by
  unfold rows
  rw [List.map_map]
  exact List.map_congr_left (fun _ _ => rfl)
theorem vStM {N w i j q r : Nat} {M : Nat → Nat → Int} (x : Int) (e : q = i) (e2 : r = j) (h : i < N) (h2 : j < w) : StoreRow (rows true (tM N w M)) ([] ++ [q]) r (dint x) (rows true (tM N w fun k l => if k = i ∧ l = j then x else M k l)) := by
  subst e; subst e2
  have h1 := store_rows (t := tM N w M) (i := q) (j := r) x (by simpa using h) (by rw [tM_getD M h]; simpa using h2)
  rw [tM_setT M x h] at h1
  exact h1
theorem vStL {w i q : Nat} {r : Nat → Int} (x : Int) (e : q = i) (h : i < w) : StoreRow (ints (lM w r)) [] q (dint x) (ints (lM w fun j => if j = i then x else r j)) := by
  subst e
  rw [← lM_set]
  exact StoreRow.ints x (by simpa using h)
theorem vLdL {w i q : Nat} {r : Nat → Int} (e : q = i) (h : i < w) : LoadRow (ints (lM w r)) [] q (dint (r i)) := by
  subst e; exact ⟨_, rfl, ints_at (lM_get r h)⟩
theorem rows_tM (N w : Nat) (M : Nat → Nat → Int) : rows true (tM N w M) = (List.range N).map fun k => .list true 1 (ints (lM w (M k))) := by
  unfold rows tM
  rw [List.map_map]; rfl
theorem sw_rows {N w a b : Nat} {M : Nat → Nat → Int} {rws : List (List D)} (h : (tM N w M).map ints = rws) (ha : a < N) (hb : b < N) : swRows rws a b = rows true (tM N w fun k => M (swp a b k)) := by
  subst h
  rw [rows_tM]
  unfold swRows
  rw [List.length_map, tM_length]
  refine List.map_congr_left (fun k hk => ?_)
  have hk' : k < N := List.mem_range.1 hk
  have h1 : swp a b k < N := swp_lt ha hb hk'
  show lstD ((List.map ints (tM N w M)).getD (swp a b k) []) = .list true 1 (ints (lM w (M (swp a b k))))
  rw [List.getD_eq_getElem?_getD, List.getElem?_map]
  unfold tM
  rw [List.getElem?_map, List.getElem?_range h1]
  rfl
def colSw (N u s a c : Nat) (M : Nat → Nat → Int) (K : Nat) : Nat → Nat → Int := fun r j => if r < K ∨ N ≤ r then swapM u s a c M r j else M (swp s a r) j
theorem colSw_all (N u s a c : Nat) (M : Nat → Nat → Int) : colSw N u s a c M N = swapM u s a c M := by
  funext r j
  exact if_pos (by omega)
theorem colSw_step (N u s a c : Nat) (M : Nat → Nat → Int) (k : Nat) (hk : k < N) (hs : s < u) (hc : c < u) (r j : Nat) :
    (if r = k ∧ j = c then colSw N u s a c M k k s else if r = k ∧ j = s then colSw N u s a c M k k c else colSw N u s a c M k r j) = colSw N u s a c M (k + 1) r j := by
  have h0 : ∀ j, colSw N u s a c M k k j = M (swp s a k) j := fun j => if_neg (by omega)
  by_cases e : r = k
  · subst e
    have h1 : ∀ j, colSw N u s a c M (r + 1) r j = swapM u s a c M r j := fun j => if_pos (by omega)
    rw [h1, h0, h0, h0]
    unfold swapM
    by_cases e1 : j = c
    · subst e1
      rw [if_pos ⟨rfl, rfl⟩, if_pos hc]
      congr 1
      unfold swp; split <;> simp_all
    · rw [if_neg (fun h => e1 h.2)]
      by_cases e2 : j = s
      · subst e2
        rw [if_pos ⟨rfl, rfl⟩, if_pos hs]
        congr 1
        unfold swp; simp
      · rw [if_neg (fun h => e2 h.2)]
        split
        · congr 1
          unfold swp; rw [if_neg e2, if_neg e1]
        · rfl
  · rw [if_neg (fun h => e h.1), if_neg (fun h => e h.1)]
    unfold colSw
    by_cases e2 : r < k ∨ N ≤ r
    · rw [if_pos e2, if_pos (show r < k + 1 ∨ N ≤ r by omega)]
    · rw [if_neg e2, if_neg (show ¬ (r < k + 1 ∨ N ≤ r) by omega)]
def headM (q U : Int) (s : Nat) (M : Nat → Nat → Int) (K : Nat) : Nat → Nat → Int := fun r j => if r = s ∧ j < K then (M s j * U) % q else M r j
theorem headM_step {q U : Int} {s : Nat} {M : Nat → Nat → Int} {K : Nat} (h1 : 0 ≤ M s K) (h2 : 0 ≤ U) (r j : Nat) :
    (if r = s ∧ j = K then (headM q U s M K s K * U).tmod q else headM q U s M K r j) = headM q U s M (K + 1) r j := by
  have hx : headM q U s M K s K = M s K := if_neg (by omega)
  rw [hx, Int.tmod_eq_emod_of_nonneg (Int.mul_nonneg h1 h2)]
  unfold headM
  by_cases e : r = s ∧ j = K
  · rw [if_pos e, if_pos (by omega), e.2]
  · rw [if_neg e]
    by_cases e2 : r = s ∧ j < K
    · rw [if_pos e2, if_pos (show r = s ∧ j < K + 1 by omega)]
    · rw [if_neg e2, if_neg (show ¬ (r = s ∧ j < K + 1) by omega)]
def headF (q U : Int) (s u : Nat) (M : Nat → Nat → Int) : Nat → Nat → Int := headM q U s M (u + 1)
def belM (q d U : Int) (s u : Nat) (M : Nat → Nat → Int) (K : Nat) : Nat → Nat → Int := fun r j => if s < r ∧ r < s + 1 + K then stepM q d U s M r j else headF q U s u M r j
theorem belM_zero {q d U : Int} {s u : Nat} {M : Nat → Nat → Int} {r j : Nat} (hj : j < u + 1) : belM q d U s u M 0 r j = headF q U s u M r j := if_neg (by omega)
theorem belM_row {q d U : Int} {s u : Nat} {M : Nat → Nat → Int} {r : Nat} (j : Nat) : belM q d U s u M r (s + 1 + r) j = M (s + 1 + r) j := by
  unfold belM headF headM
  rw [if_neg (by omega), if_neg (by omega)]
def rowM (q d U : Int) (s u : Nat) (M : Nat → Nat → Int) (r K : Nat) : Nat → Nat → Int := fun r' j => if r' = s + 1 + r ∧ j < K then stepM q d U s M r' j else belM q d U s u M r r' j
section
variable {q d U : Int} {s u : Nat} {M : Nat → Nat → Int} {r t : Nat}
theorem rowM_row : rowM q d U s u M r t (s + 1 + r) t = M (s + 1 + r) t := by
  unfold rowM
  rw [if_neg (by omega)]
  exact belM_row t
theorem rowM_head {K : Nat} (h : t < u + 1) : rowM q d U s u M r K s t = (M s t * U) % q := by
  unfold rowM belM headF headM
  rw [if_neg (by omega), if_neg (by omega), if_pos ⟨rfl, h⟩]
theorem rowM_step (h : t < u + 1) (r' j : Nat) :
    (if r' = s + 1 + r ∧ j = t then (rowM q d U s u M r t (s + 1 + r) t - M (s + 1 + r) s / d * rowM q d U s u M r t s t) % q else rowM q d U s u M r t r' j) = rowM q d U s u M r (t + 1) r' j := by
  rw [rowM_row, rowM_head h]
  unfold rowM
  by_cases e : r' = s + 1 + r ∧ j = t
  · rw [if_pos e, if_pos (show r' = s + 1 + r ∧ j < t + 1 by omega)]
    unfold stepM
    rw [if_neg (by omega), if_pos (by omega), e.1, e.2]
  · rw [if_neg e]
    by_cases e2 : r' = s + 1 + r ∧ j < t
    · rw [if_pos e2, if_pos (show r' = s + 1 + r ∧ j < t + 1 by omega)]
    · rw [if_neg e2, if_neg (show ¬ (r' = s + 1 + r ∧ j < t + 1) by omega)]
theorem rowM_end {r' j : Nat} (hj : j < u + 1) : rowM q d U s u M r (u + 1) r' j = belM q d U s u M (r + 1) r' j := by
  unfold rowM belM
  by_cases e : r' = s + 1 + r
  · rw [if_pos ⟨e, hj⟩, if_pos (show s < r' ∧ r' < s + 1 + (r + 1) by omega)]
  · rw [if_neg (fun h => e h.1)]
    by_cases e2 : s < r' ∧ r' < s + 1 + r
    · rw [if_pos e2, if_pos (show s < r' ∧ r' < s + 1 + (r + 1) by omega)]
    · rw [if_neg e2, if_neg (show ¬ (s < r' ∧ r' < s + 1 + (r + 1)) by omega)]
theorem belM_end {r' j : Nat} (hr : r' < s + 1 + r) (hj : j < u + 1) : belM q d U s u M r r' j = stepM q d U s M r' j := by
  unfold belM
  by_cases e : s < r'
  · rw [if_pos ⟨e, hr⟩]
  · rw [if_neg (fun h => e h.1)]
    unfold headF headM stepM
    by_cases e2 : r' = s
    · rw [if_pos ⟨e2, hj⟩, if_pos e2]
    · rw [if_neg (fun h => e2 h.1), if_neg e2, if_neg e]
end
theorem ord_step (o : Nat → Nat) (s c j : Nat) : (if j = c then ((o s : Nat) : Int) else if j = s then ((o c : Nat) : Int) else ((o j : Nat) : Int)) = ((o (swp s c j) : Nat) : Int) := by
  unfold swp
  by_cases e : j = c
  · rw [if_pos e]
    by_cases e2 : j = s
    · rw [if_pos e2, ← e, e2]
    · rw [if_neg e2, if_pos e]
  · rw [if_neg e]
    by_cases e2 : j = s
    · rw [if_pos e2, if_pos e2]
    · rw [if_neg e2, if_neg e2, if_neg e]
theorem lM_zeros (u : Nat) : List.replicate u (0 : Int) = lM u (fun _ => 0) := by
  unfold lM
  refine List.ext_getElem (by simp) (fun i h1 h2 => by simp)
def findB (id : Nat) : Code → Option Code
  | .seq x y => match findB id x with
    | some c => some c
    | none => findB id y
  | .cond _ x y => match findB id x with
    | some c => some c
    | none => findB id y
  | .block j x => match Nat.beq j id with
    | true => (match x with
      | .loop b => some b
      | _ => none)
    | false => findB id x
  | .loop x => findB id x
  | _ => none
def bodyB (id : Nat) (fn : Func) : Code := match fn.body with
  | some c => (match findB id c with
    | some b => b
    | none => .skip)
  | none => .skip
theorem loop_cut {P : Program} {kp : Nat} {body : Code} {Q : Exit → St → Prop} {st st2 : St} {α : Type} (fin : α → St) (F : α → Prop) (id : Nat) (h : LoopK P kp body (fun e st' => e = .exit id ∧ ∃ x, F x ∧ Weak kp st' (fin x)) st2) (hw : Weak kp st st2) (hQ : ∀ x, F x → Q (.exit id) (fin x)) : LoopK P kp body Q st := by
  unfold LoopK at h ⊢
  intro w0 a w hk hf b k cs
  obtain ⟨e, a', w', ⟨st', hf', rfl, x, hF, hwk⟩, harr⟩ := h w0 a w hk (hw w0 a w hk hf) b k cs
  exact ⟨_, a', w', ⟨fin x, hwk w0 a' w' hk hf', hQ x hF⟩, harr⟩
abbrev few (n : Nat) (cs : List (Nat × D)) (rt : List (Option Root)) : St := gcSt 1 ⟨putL cs (List.replicate n .undef), rt⟩
theorem local_back {q : Int} (hmd : Md q) (N u : Nat) (hu : 1 ≤ u ∧ u ≤ 100) (M0 M : Nat → Nat → Int) (o : Nat → Nat) (s : Nat) (hE : Elim q N u s M o) (hM : ∀ i j, i < N → j ≤ u → 0 ≤ M i j ∧ M i j < q)
    (hS : ∀ z, SolE q N u M o z → SolE q N u M0 (fun j => j) z) (z : Nat → Int) (hz : SolE q N u M o z) (hz0 : ∀ r j, s ≤ r → r < N → s ≤ j → j < u → M r j = 0) :
    LoopK Tryz.prog 1 (bodyB 16 Tryz.f74) (fun e st' => e = .exit 16 ∧ ∃ X : Nat → Int, ((∀ i, i < u → 0 ≤ X i ∧ X i < q) ∧ SolE q N u M0 (fun j => j) X) ∧ Weak 1 st' (few Tryz.f74.ntmps [(28, .ref 3 [] 1 0 u)] [none, none, none, some ⟨false, 1, ints (lM u X)⟩]))
      (few Tryz.f74.ntmps [(0, .ref 1 [] 1 0 N), (1, dint u), (3, dint q), (9, .ref 2 [] 1 0 u), (28, .ref 3 [] 1 0 u), (29, dint ((s : Int) - 1))] [none, some ⟨false, 1, rows true (tM N (u + 1) M)⟩, some ⟨false, 1, ints (lM u fun j => (o j : Int))⟩, some ⟨false, 1, ints (lM u fun _ => 0)⟩]) := by
  have hm1 := hmd.1
  have hm2 := hmd.2
  have hsN := hE.sN
  have hsu := hE.su
  have hol := hE.ol
  refine loop_atR Tryz.tabOk mixOrd (α := (Nat → Int) × Nat) (fun x => [(29, dint ((x.2 : Int) - 1)), (30, .undef), (31, .undef)]) (fun x => [(3, some ⟨false, 1, ints (lM u x.1)⟩)]) (fun x => x.2 ≤ s ∧ (∀ i, i < u → 0 ≤ x.1 i ∧ x.1 i < q) ∧ ∀ i, x.2 ≤ i → i < s → q ∣ sumI u (fun j => M i j * x.1 (o j)) - M i u) (fun x => x.2) ((fun _ => 0, s)) ?_ ?_ ?_
  · exact ⟨Nat.le_refl s, fun i _ => by simp only; omega, fun i h1 h2 => by simp only at h1; omega⟩
  · conv => whnf
    first | refine WeakS.autoR ?_ | refine Weak.autoR ?_
    conv => whnf
    repeat' ((first | exact trivial | refine And.intro rfl ?_ | refine And.intro (eqV_int vAr) ?_ | refine And.intro vOb ?_ | refine And.intro vRepl ?_ | refine And.intro vReplL ?_ | refine And.intro ?_ ?_) <;> try (conv => whnf))
    all_goals exact congrArg ints (lM_zeros u)
  intro ⟨X, kk⟩ ⟨hk, hX, hsol⟩
  simp only at hk hX hsol
  conv => whnf
  by_cases hk0 : 0 < kk
  · obtain ⟨k, rfl⟩ : ∃ k, kk = k + 1 := ⟨kk - 1, by omega⟩
    have hMku := hM k u (by omega) (Nat.le_refl u)
    have hMkk := hE.piv k (by omega)
    have hMkr := hM k k (by omega) (by omega)
    repeat' first | ((first | refine And.intro (Or.inl rfl) ?_ | (apply Exists.intro; refine And.intro (vMatR (i := k) vIx (by omega)) ?_) | (apply Exists.intro; refine And.intro (vMat (i := k) (j := u) vIx vIx (by omega) (by omega)) ?_) | (refine And.intro (fun h => ?_) (fun h => ?_) <;> (try simp only [cnt1, ints_length, rows_length, Tb_length, lM_length, tM_length] at h) <;> first | (exfalso; omega) | skip) | refine And.intro (show slotsOk _ = true by decide +kernel) ?_ | refine And.intro vOb ?_ | (apply Exists.intro; refine And.intro vObt ?_) | (apply Exists.intro; refine And.intro vObx ?_) | refine And.intro vArT ?_ | refine And.intro (vMl) ?_ | refine Or.inl ?_) <;> conv => whnf) | fail
    refine loop_atR Tryz.tabOk mixOrd (α := Nat × Int) (fun z => [(31, dint ((k : Int) + 1 + z.1)), (30, dint z.2)]) (fun z => []) (fun z => k + 1 + z.1 ≤ u ∧ (-(10000 * ((z.1 : Int) + 1)) ≤ z.2 ∧ z.2 ≤ 10000) ∧ q ∣ z.2 - (M k u - sumI (k + 1 + z.1) (fun j => if j ≤ k then 0 else M k j * X (o j)))) (fun z => u - z.1) ((0, M k u)) ?_ ?_ ?_
    · refine ⟨by simp only; omega, by simp only; omega, ?_⟩
      simp only [Nat.add_zero]
      rw [sumI_zero (fun j hj => if_pos (by omega)), Int.sub_zero, Int.sub_self]
      exact Int.dvd_zero _
    · conv => whnf
      first | refine WeakS.autoR ?_ | refine Weak.autoR ?_
      conv => whnf
      repeat' ((first | exact trivial | refine And.intro rfl ?_ | refine And.intro (eqV_int vAr) ?_ | refine And.intro vOb ?_ | refine And.intro vRepl ?_ | refine And.intro vReplL ?_ | refine And.intro ?_ ?_) <;> try (conv => whnf))
    intro ⟨t, w⟩ ⟨ht, hw, hd⟩
    simp only at ht hw hd
    conv => whnf
    by_cases htu : k + 1 + t < u
    · have h1 := hM k (k + 1 + t) (by omega) (by omega)
      have ho1 := hol _ htu
      have h2 := hX (o (k + 1 + t)) (hol _ htu)
      have h3 : 0 ≤ M k (k + 1 + t) * X (o (k + 1 + t)) := Int.mul_nonneg h1.1 h2.1
      have h4 : M k (k + 1 + t) * X (o (k + 1 + t)) ≤ 10000 * 10000 := Int.mul_le_mul (by omega) (by omega) h2.1 (by omega)
      have h5 := Int.tmod_nonneg q h3
      have h6 := Int.tmod_lt_of_pos (M k (k + 1 + t) * X (o (k + 1 + t))) (show 0 < q by omega)
      repeat' first | ((first | refine And.intro (Or.inl rfl) ?_ | (apply Exists.intro; refine And.intro (vMatR (i := k) vIx (by omega)) ?_) | (apply Exists.intro; refine And.intro (vMat (i := k) (j := k + 1 + t) vIx (by first | omega | (simp only [place1]; omega)) (by omega) (by omega)) ?_) | (apply Exists.intro; refine And.intro (vLdL (w := u) (r := fun j => ((o j : Nat) : Int)) (i := k + 1 + t) (by first | omega | (simp only [place1]; omega)) htu) ?_) | (apply Exists.intro; refine And.intro (vLdL (w := u) (r := X) (i := o (k + 1 + t)) vIx (hol _ htu)) ?_) | (refine And.intro (fun h => ?_) (fun h => ?_) <;> (try simp only [cnt1, ints_length, rows_length, Tb_length, lM_length, tM_length] at h) <;> first | (exfalso; omega) | skip) | refine And.intro (show slotsOk _ = true by decide +kernel) ?_ | refine And.intro vOb ?_ | (apply Exists.intro; refine And.intro vObt ?_) | (apply Exists.intro; refine And.intro vObx ?_) | refine And.intro vArT ?_ | refine And.intro (vMl) ?_ | refine Or.inl ?_) <;> conv => whnf) | fail
      refine Exists.intro (t + 1, w - (M k (k + 1 + t) * X (o (k + 1 + t))).tmod q) (And.intro ⟨by simp only; omega, by simp only; omega, ?_⟩ (And.intro (by simp only; omega) ?_))
      · show q ∣ w - (M k (k + 1 + t) * X (o (k + 1 + t))).tmod q - (M k u - (sumI (k + 1 + t) (fun j => if j ≤ k then 0 else M k j * X (o j)) + (if k + 1 + t ≤ k then 0 else M k (k + 1 + t) * X (o (k + 1 + t)))))
        rw [if_neg (by omega), Int.tmod_eq_emod_of_nonneg h3]
        have h7 := Int.dvd_add hd (dvd_emod_sub q (M k (k + 1 + t) * X (o (k + 1 + t))))
        rwa [show w - (M k u - sumI (k + 1 + t) fun j => if j ≤ k then 0 else M k j * X (o j)) + (M k (k + 1 + t) * X (o (k + 1 + t)) - M k (k + 1 + t) * X (o (k + 1 + t)) % q) = w - M k (k + 1 + t) * X (o (k + 1 + t)) % q - (M k u - ((sumI (k + 1 + t) fun j => if j ≤ k then 0 else M k j * X (o j)) + M k (k + 1 + t) * X (o (k + 1 + t)))) by omega] at h7
      first | refine WeakS.autoR ?_ | refine Weak.autoR ?_
      conv => whnf
      repeat' ((first | exact trivial | refine And.intro rfl ?_ | refine And.intro (eqV_int vAr) ?_ | refine And.intro vOb ?_ | refine And.intro vRepl ?_ | refine And.intro vReplL ?_ | refine And.intro ?_ ?_) <;> try (conv => whnf))
    · have htu2 : k + 1 + t = u := by omega
      rw [htu2] at hd
      have r1 := Int.emod_nonneg w (show q ≠ 0 by omega)
      have r2 := Int.emod_lt_of_pos w (show 0 < q by omega)
      have r3 : (w % q).tdiv (M k k) = w % q / M k k := Int.tdiv_eq_ediv_of_nonneg r1
      have r4 := Int.ediv_le_self (M k k) r1
      have r5 := Int.ediv_nonneg r1 (show 0 ≤ M k k by omega)
      have r6 : inR .i64 ((w % q).tdiv (M k k)) := by rw [r3]; exact inR64 (by omega) (by omega)
      have ho2 := hol k (by omega)
      have r7 : M k k ≠ 0 := by omega
      repeat' first | ((first | refine And.intro (Or.inl rfl) ?_ | (apply Exists.intro; refine And.intro (vMatR (i := k) vIx (by omega)) ?_) | (apply Exists.intro; refine And.intro (vMat (i := k) (j := k) vIx vIx (by omega) (by omega)) ?_) | (apply Exists.intro; refine And.intro (vLdL (w := u) (r := fun j => ((o j : Nat) : Int)) (i := k) vIx (by omega)) ?_) | (apply Exists.intro; refine And.intro (c_mod _ _ hmd.pos (by omega)) ?_) | (apply Exists.intro; refine And.intro (vStL (w := u) (r := X) (i := o k) _ vIx (hol k (by omega))) ?_) | (refine And.intro (fun h => ?_) (fun h => ?_) <;> (try simp only [cnt1, ints_length, rows_length, Tb_length, lM_length, tM_length] at h) <;> first | (exfalso; omega) | skip) | refine And.intro (show slotsOk _ = true by decide +kernel) ?_ | refine And.intro vOb ?_ | (apply Exists.intro; refine And.intro vObt ?_) | (apply Exists.intro; refine And.intro vObx ?_) | refine And.intro vArT ?_ | refine And.intro (r6) ?_ | refine And.intro (r7) ?_ | refine And.intro (vMl) ?_ | refine Or.inl ?_) <;> conv => whnf) | fail
      refine Exists.intro (updI X (o k) (w % q / M k k), k) (And.intro ⟨by simp only; omega, fun i hi => ?_, fun i h1 h2 => hE.back hz (by omega) hd (fun i h3 h4 => hsol i (by omega) h4) i h1 h2⟩ (And.intro (by simp only; omega) ?_))
      · show 0 ≤ updI X (o k) (w % q / M k k) i ∧ updI X (o k) (w % q / M k k) i < q
        unfold updI
        split
        · exact ⟨r5, by omega⟩
        · exact hX i hi
      first | refine WeakS.autoR ?_ | refine Weak.autoR ?_
      conv => whnf
      repeat' ((first | exact trivial | refine And.intro rfl ?_ | refine And.intro (eqV_int vAr) ?_ | refine And.intro vOb ?_ | refine And.intro vRepl ?_ | refine And.intro vReplL ?_ | refine And.intro ?_ ?_) <;> try (conv => whnf))
      exact congrArg ints (lM_congr (fun i _ => by rw [r3]; rfl))
  · have hk1 : kk = 0 := by omega
    subst hk1
    repeat' first | ((first | refine And.intro (Or.inl rfl) ?_ | (refine And.intro (fun h => ?_) (fun h => ?_) <;> (try simp only [cnt1, ints_length, rows_length, Tb_length, lM_length, tM_length] at h) <;> first | (exfalso; omega) | skip) | refine And.intro (show slotsOk _ = true by decide +kernel) ?_ | refine And.intro vOb ?_ | (apply Exists.intro; refine And.intro vObt ?_) | (apply Exists.intro; refine And.intro vObx ?_) | refine And.intro vArT ?_ | refine Or.inl ?_) <;> conv => whnf) | fail
    have hfin := hS X (hE.done hz hz0 (fun i hi => hsol i (by omega) hi))
    refine ⟨X, ⟨hX, hfin⟩, ?_⟩
    first | refine WeakS.autoR ?_ | refine Weak.autoR ?_
    conv => whnf
    repeat' ((first | exact trivial | refine And.intro rfl ?_ | refine And.intro (eqV_int vAr) ?_ | refine And.intro vOb ?_ | refine And.intro vRepl ?_ | refine And.intro vReplL ?_ | refine And.intro ?_ ?_) <;> try (conv => whnf))
theorem local_scan (p : Nat) (hp : 2 ≤ p) {q : Int} (hmd : Md q) (hpq : (p : Int) ≤ q) (N u : Nat) (hN : N ≤ 1000) (hu : 1 ≤ u ∧ u ≤ 100) (M : Nat → Nat → Int) (o : Nat → Nat) (s : Nat) (hsN : s ≤ N) (hsu : s ≤ u) (hsu2 : s < u) (hM : ∀ i j, i < N → j ≤ u → 0 ≤ M i j ∧ M i j < q) :
    LoopK Tryz.prog 1 (bodyB 4 Tryz.f74) (fun e st' => e = .exit 4 ∧ ∃ b : Option (Nat × Nat), Best p M s u N s b ∧ Weak 1 st' (few Tryz.f74.ntmps [(0, .ref 1 [] 1 0 N), (1, dint u), (2, dint p), (3, dint q), (9, .ref 2 [] 1 0 u), (11, dint s), (12, dint (bI b)), (13, dint (bJ b)), (14, dint (bV p M b))] [none, some ⟨false, 1, rows true (tM N (u + 1) M)⟩, some ⟨false, 1, ints (lM u fun j => (o j : Int))⟩]))
      (few Tryz.f74.ntmps [(0, .ref 1 [] 1 0 N), (1, dint u), (2, dint p), (3, dint q), (9, .ref 2 [] 1 0 u), (11, dint s), (12, dint (-1)), (13, dint 0), (14, dint 0), (15, dint s)] [none, some ⟨false, 1, rows true (tM N (u + 1) M)⟩, some ⟨false, 1, ints (lM u fun j => (o j : Int))⟩]) := by
  have hm1 := hmd.1
  have hm2 := hmd.2
  refine loop_atR Tryz.tabOk mixOrd (α := Nat × Option (Nat × Nat)) (fun x => [(15, dint x.1), (12, dint (bI x.2)), (13, dint (bJ x.2)), (14, dint (bV p M x.2))]) (fun x => []) (fun x => s ≤ x.1 ∧ x.1 ≤ N ∧ Best p M s u x.1 s x.2) (fun x => N - x.1) ((s, none)) ?_ ?_ ?_
  · exact ⟨Nat.le_refl s, hsN, Best.zero⟩
  · conv => whnf
    first | refine WeakS.autoR ?_ | refine Weak.autoR ?_
    conv => whnf
    repeat' ((first | exact trivial | refine And.intro rfl ?_ | refine And.intro (eqV_int vAr) ?_ | refine And.intro vOb ?_ | refine And.intro vRepl ?_ | refine And.intro vReplL ?_ | refine And.intro ?_ ?_) <;> try (conv => whnf))
  intro ⟨i, b⟩ ⟨hsi, hi, hb⟩
  simp only at hsi hi hb
  conv => whnf
  repeat' first | ((first | refine And.intro (Or.inl rfl) ?_ | (refine And.intro (fun h => ?_) (fun h => ?_) <;> (try simp only [cnt1, ints_length] at h)) | refine And.intro (show slotsOk _ = true by decide +kernel) ?_ | refine And.intro vOb ?_ | (apply Exists.intro; refine And.intro vObt ?_) | (apply Exists.intro; refine And.intro vObx ?_) | refine And.intro vArT ?_ | refine Or.inl ?_) <;> conv => whnf) | fail
  · have hiN : i < N := vAr
    refine loop_atR Tryz.tabOk mixOrd (α := Nat × Option (Nat × Nat)) (fun x => [(16, dint x.1), (12, dint (bI x.2)), (13, dint (bJ x.2)), (14, dint (bV p M x.2))]) (fun x => []) (fun x => s ≤ x.1 ∧ x.1 ≤ u ∧ Best p M s u i x.1 x.2) (fun x => u - x.1) ((s, b)) ?_ ?_ ?_
    · exact ⟨Nat.le_refl s, hsu, hb⟩
    · conv => whnf
      first | refine WeakS.autoR ?_ | refine Weak.autoR ?_
      conv => whnf
      repeat' ((first | exact trivial | refine And.intro rfl ?_ | refine And.intro (eqV_int vAr) ?_ | refine And.intro vOb ?_ | refine And.intro vRepl ?_ | refine And.intro vReplL ?_ | refine And.intro ?_ ?_) <;> try (conv => whnf))
    intro ⟨j, b⟩ ⟨hsj, hj, hb⟩
    simp only at hsj hj hb
    conv => whnf
    by_cases hju : j < u
    · have hx := hM i j hiN (by omega)
      have kv := fun h0 : M i j ≠ 0 => c_valuation p (M i j).toNat ⟨hp, by omega⟩ ⟨by omega, by omega⟩
      rw [Int.toNat_of_nonneg hx.1] at kv
      by_cases h0 : M i j = 0
      · repeat' first | ((first | refine And.intro (Or.inl rfl) ?_ | (apply Exists.intro; refine And.intro (vMat (i := i) (j := j) vIx vIx hiN (by omega)) ?_) | (apply Exists.intro; refine And.intro (vMatR (i := i) vIx hiN) ?_) | (refine And.intro (fun h => ?_) (fun h => ?_) <;> (try simp only [cnt1, ints_length, rows_length, Tb_length, lM_length, tM_length] at h) <;> first | (exfalso; omega) | skip) | refine And.intro (show slotsOk _ = true by decide +kernel) ?_ | refine And.intro vOb ?_ | (apply Exists.intro; refine And.intro vObt ?_) | (apply Exists.intro; refine And.intro vObx ?_) | refine And.intro vArT ?_ | refine And.intro (vMl) ?_ | refine Or.inl ?_) <;> conv => whnf) | fail
        refine Exists.intro (j + 1, b) (And.intro ⟨by simp only; omega, by simp only; omega, hb.skip h0⟩ (And.intro (by simp only; omega) ?_))
        first | refine WeakS.autoR ?_ | refine Weak.autoR ?_
        conv => whnf
        repeat' ((first | exact trivial | refine And.intro rfl ?_ | refine And.intro (eqV_int vAr) ?_ | refine And.intro vOb ?_ | refine And.intro vRepl ?_ | refine And.intro vReplL ?_ | refine And.intro ?_ ?_) <;> try (conv => whnf))
      have kv := kv h0
      cases b with
      | none =>
        have eb : bI none = -1 := rfl
        repeat' first | ((first | refine And.intro (Or.inl rfl) ?_ | (apply Exists.intro; refine And.intro (vMat (i := i) (j := j) vIx vIx hiN (by omega)) ?_) | (apply Exists.intro; refine And.intro (vMatR (i := i) vIx hiN) ?_) | (apply Exists.intro; refine And.intro (kv) ?_) | (refine And.intro (fun h => ?_) (fun h => ?_) <;> (try simp only [cnt1, ints_length, rows_length, Tb_length, lM_length, tM_length] at h) <;> first | (exfalso; omega) | skip) | refine And.intro (show slotsOk _ = true by decide +kernel) ?_ | refine And.intro vOb ?_ | (apply Exists.intro; refine And.intro vObt ?_) | (apply Exists.intro; refine And.intro vObx ?_) | refine And.intro vArT ?_ | refine And.intro (vMl) ?_ | refine Or.inl ?_) <;> conv => whnf) | fail
        refine Exists.intro (j + 1, some (i, j)) (And.intro ⟨by simp only; omega, by simp only; omega, hb.first h0 ⟨by omega, by omega, hju⟩⟩ (And.intro (by simp only; omega) ?_))
        first | refine WeakS.autoR ?_ | refine Weak.autoR ?_
        conv => whnf
        repeat' ((first | exact trivial | refine And.intro rfl ?_ | refine And.intro (eqV_int vAr) ?_ | refine And.intro vOb ?_ | refine And.intro vRepl ?_ | refine And.intro vReplL ?_ | refine And.intro ?_ ?_) <;> try (conv => whnf))
      | some x =>
        have eb : bI (some x) = (x.1 : Int) := rfl
        have ev : bV p M (some x) = (valN p (M x.1 x.2).toNat : Nat) := rfl
        by_cases hlt : valN p (M i j).toNat < valN p (M x.1 x.2).toNat
        · repeat' first | ((first | refine And.intro (Or.inl rfl) ?_ | (apply Exists.intro; refine And.intro (vMat (i := i) (j := j) vIx vIx hiN (by omega)) ?_) | (apply Exists.intro; refine And.intro (vMatR (i := i) vIx hiN) ?_) | (apply Exists.intro; refine And.intro (kv) ?_) | (refine And.intro (fun h => ?_) (fun h => ?_) <;> (try simp only [cnt1, ints_length, rows_length, Tb_length, lM_length, tM_length] at h) <;> first | (exfalso; omega) | skip) | refine And.intro (show slotsOk _ = true by decide +kernel) ?_ | refine And.intro vOb ?_ | (apply Exists.intro; refine And.intro vObt ?_) | (apply Exists.intro; refine And.intro vObx ?_) | refine And.intro vArT ?_ | refine And.intro (vMl) ?_ | refine Or.inl ?_) <;> conv => whnf) | fail
          refine Exists.intro (j + 1, some (i, j)) (And.intro ⟨by simp only; omega, by simp only; omega, hb.take h0 ⟨by omega, by omega, hju⟩ hlt⟩ (And.intro (by simp only; omega) ?_))
          first | refine WeakS.autoR ?_ | refine Weak.autoR ?_
          conv => whnf
          repeat' ((first | exact trivial | refine And.intro rfl ?_ | refine And.intro (eqV_int vAr) ?_ | refine And.intro vOb ?_ | refine And.intro vRepl ?_ | refine And.intro vReplL ?_ | refine And.intro ?_ ?_) <;> try (conv => whnf))
        · repeat' first | ((first | refine And.intro (Or.inl rfl) ?_ | (apply Exists.intro; refine And.intro (vMat (i := i) (j := j) vIx vIx hiN (by omega)) ?_) | (apply Exists.intro; refine And.intro (vMatR (i := i) vIx hiN) ?_) | (apply Exists.intro; refine And.intro (kv) ?_) | (refine And.intro (fun h => ?_) (fun h => ?_) <;> (try simp only [cnt1, ints_length, rows_length, Tb_length, lM_length, tM_length] at h) <;> first | (exfalso; omega) | skip) | refine And.intro (show slotsOk _ = true by decide +kernel) ?_ | refine And.intro vOb ?_ | (apply Exists.intro; refine And.intro vObt ?_) | (apply Exists.intro; refine And.intro vObx ?_) | refine And.intro vArT ?_ | refine And.intro (vMl) ?_ | refine Or.inl ?_) <;> conv => whnf) | fail
          refine Exists.intro (j + 1, some x) (And.intro ⟨by simp only; omega, by simp only; omega, hb.keep hlt⟩ (And.intro (by simp only; omega) ?_))
          first | refine WeakS.autoR ?_ | refine Weak.autoR ?_
          conv => whnf
          repeat' ((first | exact trivial | refine And.intro rfl ?_ | refine And.intro (eqV_int vAr) ?_ | refine And.intro vOb ?_ | refine And.intro vRepl ?_ | refine And.intro vReplL ?_ | refine And.intro ?_ ?_) <;> try (conv => whnf))
    · have hju2 : j = u := by omega
      subst hju2
      repeat' first | ((first | refine And.intro (Or.inl rfl) ?_ | (refine And.intro (fun h => ?_) (fun h => ?_) <;> (try simp only [cnt1, ints_length, rows_length, Tb_length, lM_length, tM_length] at h) <;> first | (exfalso; omega) | skip) | refine And.intro (show slotsOk _ = true by decide +kernel) ?_ | refine And.intro vOb ?_ | (apply Exists.intro; refine And.intro vObt ?_) | (apply Exists.intro; refine And.intro vObx ?_) | refine And.intro vArT ?_ | refine Or.inl ?_) <;> conv => whnf) | fail
      refine Exists.intro (i + 1, b) (And.intro ⟨by simp only; omega, by simp only; omega, hb.row⟩ (And.intro (by simp only; omega) ?_))
      first | refine WeakS.autoR ?_ | refine Weak.autoR ?_
      conv => whnf
      repeat' ((first | exact trivial | refine And.intro rfl ?_ | refine And.intro (eqV_int vAr) ?_ | refine And.intro vOb ?_ | refine And.intro vRepl ?_ | refine And.intro vReplL ?_ | refine And.intro ?_ ?_) <;> try (conv => whnf))
  · have hiN : i = N := vAr
    subst hiN
    refine ⟨b, hb, ?_⟩
    first | refine WeakS.autoR ?_ | refine Weak.autoR ?_
    conv => whnf
    repeat' ((first | exact trivial | refine And.intro rfl ?_ | refine And.intro (eqV_int vAr) ?_ | refine And.intro vOb ?_ | refine And.intro vRepl ?_ | refine And.intro vReplL ?_ | refine And.intro ?_ ?_) <;> try (conv => whnf))
end Go.Proofs

