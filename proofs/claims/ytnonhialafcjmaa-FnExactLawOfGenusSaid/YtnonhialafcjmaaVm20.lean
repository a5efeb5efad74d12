/- Regions whose order is drawn: what does not hang together may run in whatever order. -/
import Derived.Test.YtnonhialafcjmaaVm19
set_option linter.unusedVariables false
set_option linter.unusedSimpArgs false
set_option linter.unusedSectionVars false
namespace Go.Vm
open Go Go.RowKit

section folds
variable {V : Type}
def fl : List (Nat → Option V) → Nat → (Nat → Bool) → (Nat → V) → Nat → V
  | [], _, _, s => s
  | w :: ws, k, S, s => fl ws (k + 1) S (if S k then fun x => (w x).getD (s x) else s)

theorem fl_congr (x : Nat) : ∀ (ws : List (Nat → Option V)) (k : Nat) (S S' : Nat → Bool) (s s' : Nat → V), (∀ (j : Nat) w, ws[j]? = some w → w x ≠ none → S (k + j) = S' (k + j)) → s x = s' x →
    fl ws k S s x = fl ws k S' s' x := by
  intro ws
  induction ws with
  | nil => intro k S S' s s' _ h; exact h
  | cons w ws ih =>
    intro k S S' s s' h hs
    simp only [fl]
    refine ih (k + 1) S S' _ _ (fun j w' hj hw => by have := h (j + 1) w' (by simpa using hj) hw; rw [show k + 1 + j = k + (j + 1) by omega]; exact this) ?_
    cases hw : w x with
    | none => (repeat' split) <;> simp [hw, hs]
    | some v =>
      have := h 0 w rfl (by rw [hw]; simp)
      simp only [Nat.add_zero] at this
      rw [this]
      split <;> simp [hw, hs]

theorem fl_last (x : Nat) {v : V} : ∀ (ws : List (Nat → Option V)) (k : Nat) (S : Nat → Bool) (s : Nat → V) (i : Nat) w, ws[i]? = some w → w x = some v → S (k + i) = true →
    (∀ (j : Nat) w', ws[j]? = some w' → i < j → S (k + j) = true → w' x = none) → fl ws k S s x = v := by
  intro ws
  induction ws with
  | nil => intro k S s i w h; simp at h
  | cons w0 ws ih =>
    intro k S s i w h hw hS hno
    simp only [fl]
    cases i with
    | zero =>
      simp only [List.getElem?_cons_zero, Option.some.injEq] at h; subst h
      simp only [Nat.add_zero] at hS
      rw [hS, if_pos rfl]
      have : ∀ (ws : List (Nat → Option V)) (k' : Nat) (s : Nat → V), (∀ (j : Nat) w', ws[j]? = some w' → S (k' + j) = true → w' x = none) → fl ws k' S s x = s x := by
        intro ws
        induction ws with
        | nil => intro k' s _; rfl
        | cons w1 ws ih2 =>
          intro k' s h2
          simp only [fl]
          rw [ih2 (k' + 1) _ (fun j w' hj hS' => h2 (j + 1) w' (by simpa using hj) (by rw [show k' + (j + 1) = k' + 1 + j by omega]; exact hS'))]
          split
          · rename_i h3
            show (w1 x).getD (s x) = s x
            rw [h2 0 w1 rfl (by simpa using h3)]; rfl
          · rfl
      rw [this ws (k + 1) _ (fun j w' hj hS' => hno (j + 1) w' (by simpa using hj) (by omega) (by rw [show k + (j + 1) = k + 1 + j by omega]; exact hS')), hw]
      rfl
    | succ i =>
      exact ih (k + 1) S _ i w (by simpa using h) hw (by rw [show k + 1 + i = k + (i + 1) by omega]; exact hS)
        (fun j w' hj hlt hS' => hno (j + 1) w' (by simpa using hj) (by omega) (by rw [show k + (j + 1) = k + 1 + j by omega]; exact hS'))

def addS (S : Nat → Bool) (m : Nat) : Nat → Bool := fun n => n == m || S n

theorem fl_ins (x : Nat) (ws : List (Nat → Option V)) (S : Nat → Bool) (s : Nat → V) (i : Nat) (w : Nat → Option V) (hi : ws[i]? = some w)
    (hno : ∀ (j : Nat) w', ws[j]? = some w' → i < j → S j = true → w x = none ∨ w' x = none) : fl ws 0 (addS S i) s x = (w x).getD (fl ws 0 S s x) := by
  cases hw : w x with
  | none =>
    simp only [Option.getD_none]
    refine fl_congr x ws 0 _ _ s s (fun j w' hj hne => ?_) rfl
    simp only [Nat.zero_add, addS]
    by_cases hij : j = i
    · subst hij; rw [hi] at hj; cases hj; exact absurd hw hne
    · simp [hij]
  | some v =>
    simp only [Option.getD_some]
    refine fl_last x ws 0 _ s i w hi hw (by simp [addS]) (fun j w' hj hlt hS => ?_)
    simp only [Nat.zero_add, addS] at hS
    have hne : j ≠ i := by omega
    simp [hne] at hS
    exact (hno j w' hj hlt hS).resolve_left (by rw [hw]; simp)
end folds

structure Ent where
  dst : Option Nat
  val : D
  res : Res
  n : Nat

/-- The roots that an operation has made or written; those that it looked at. -/
def Ent.ws (e : Ent) : List Nat := e.res.wr.map (·.1) ++ (List.range e.res.new.length).map (e.n + ·)
def memN (x : Nat) : List Nat → Bool
  | [] => false
  | y :: ys => Nat.beq x y || memN x ys
def meets : List Nat → List Nat → Bool
  | [], _ => false
  | x :: xs, ys => memN x ys || meets xs ys
def Ent.apart (e f : Ent) : Bool := match e.ws, f.ws with
  | [], [] => true
  | we, wf => !(meets we wf || meets we f.res.rd || meets e.res.rd wf)

def maskOf (acc : List Nat) : List Edge → Nat
  | [] => 0
  | e :: es => (if Region.binds .any e then 2 ^ e.on ||| acc.getD e.on 0 else 0) ||| maskOf acc es
def befL : List Oper → List Nat → List Nat
  | [], acc => acc
  | o :: os, acc => befL os (acc ++ [maskOf acc o.after.toList])
/-- For each operation, those that stand before it in every order. -/
def bef (ops : List Oper) : List Nat := befL ops []

def pairsOk (p : Nat → Nat → Bool) (N : Nat) : Bool := (List.range N).all fun j => (List.range j).all fun i => p i j

/-- What is asked of the region's text: names that two operations share are in order. -/
def slotsOk (ops : Array Oper) : Bool :=
  let b := bef ops.toList
  (List.range ops.size).all fun j => match ops[j]? with
    | none => false
    | some oj => oj.after.toList.all (fun e => !Region.binds .any e || Nat.blt e.on j) &&
      (List.range j).all fun i => match ops[i]? with
        | none => false
        | some oi => (b.getD j 0).testBit i || oi.apart ops oj

def okLog1 (ops : List Oper) (e : Ent) (i : Nat) : Nat → List Ent → Bool
  | _, [] => true
  | j, f :: fs => (e.apart f || ((bef ops).getD j 0).testBit i) && okLog1 ops e i (j + 1) fs
def okLog (ops : List Oper) : Nat → List Ent → Bool
  | _, [] => true
  | i, e :: es => okLog1 ops e i (i + 1) es && okLog ops (i + 1) es

/-- A region whose order is drawn, walked in the order of the text; a log is kept. -/
def drawK (P : Program) (T : Tab) (ops : List Oper) : List Oper → St → (List Ent → List Ent) → (St → Prop) → Prop
  | [], st, log, K => chk (okLog ops 0 (log [])) (K st)
  | o :: rest, st, log, K => match guardOn ops o st.env with
    | some true => runK P T o st fun d res => forceS (nextSt st o.dst d res) fun st' => drawK P T ops rest st' (fun l => log ({ dst := o.dst, val := d, res := res, n := st.rt.length } :: l)) K
    | some false => forceS ⟨setSlot st.env o.dst (.lit Go.undef), st.rt⟩ fun st' => drawK P T ops rest st' (fun l => log ({ dst := o.dst, val := .lit Go.undef, res := { val := .undef }, n := st.rt.length } :: l)) K
    | none => False

/-- What a walk in the order of the text leaves behind. -/
inductive Trc (P : Program) (T : Tab) (ops : List Oper) : List Oper → St → List Ent → St → Prop
  | nil (st : St) : Trc P T ops [] st [] st
  | run (o : Oper) (rest : List Oper) (st : St) (d : D) (res : Res) (es : List Ent) (st' : St) (hg : guardOn ops o st.env = some true)
      (hev : ∀ (env' : List D) (rt' : RT), (∀ x ∈ o.op.operands, evO env' x = evO st.env x) → (∀ r ∈ res.rd, rt' r = rtOf st.rt r) → evK P T env' rt' st.rt.length o.op (· = res))
      (hwr : wrOk st.rt res = true) (hn : ∀ (v : Value) (w : World) ok own rt, Mt w ok own rt res.val v → (∀ b : Bool, res.val = .lit (.bool b) → d = .kb b) → Mt w ok own rt d v) (hd : ∀ b : Bool, res.val = .lit (.bool b) → d = .kb b)
      (h : Trc P T ops rest (nextSt st o.dst d res) es st') : Trc P T ops (o :: rest) st ({ dst := o.dst, val := d, res := res, n := st.rt.length } :: es) st'
  | skip (o : Oper) (rest : List Oper) (st : St) (es : List Ent) (st' : St) (hg : guardOn ops o st.env = some false)
      (h : Trc P T ops rest ⟨setSlot st.env o.dst (.lit Go.undef), st.rt⟩ es st') : Trc P T ops (o :: rest) st ({ dst := o.dst, val := .lit Go.undef, res := { val := .undef }, n := st.rt.length } :: es) st'

theorem normB_ext {d : D} {k : D → Prop} (h : normB d k) : ∃ d', k d' ∧ (∀ b : Bool, d = .lit (.bool b) → d' = .kb b) ∧ (∀ (v : Value) (w : World) ok own rt, Mt w ok own rt d v → (∀ b : Bool, d = .lit (.bool b) → d' = .kb b) → Mt w ok own rt d' v) := by
  unfold normB at h
  split at h
  · rename_i b
    refine ⟨.kb b, ?_, fun b' e => by cases e; rfl, fun v w ok own rt hm _ => ?_⟩
    · cases b with
      | true => exact h.1 rfl
      | false => exact h.2 rfl
    · have := hm.lit_inv; subst this; exact .sh _ _ (.kb _)
  · rename_i hno
    exact ⟨d, h, fun b e => absurd e (hno b), fun v w ok own rt hm _ => hm⟩

theorem drawK_trc {P : Program} {T : Tab} {ops : List Oper} : ∀ (rest : List Oper) (st : St) (log : List Ent → List Ent) (K : St → Prop), drawK P T ops rest st log K →
    ∃ es st', Trc P T ops rest st es st' ∧ okLog ops 0 (log es) = true ∧ K st' := by
  intro rest
  induction rest with
  | nil => intro st log K h; have := chk_and h; exact ⟨[], st, .nil st, this.1, this.2⟩
  | cons o rest ih =>
    intro st log K h
    simp only [drawK, forceS_eq] at h
    split at h
    · rename_i hg
      unfold runK at h
      rw [forceN_eq] at h
      obtain ⟨res, h1, hev⟩ := evK_ext h
      obtain ⟨hwr, h2⟩ := chk_and h1
      obtain ⟨d, h3, hd, hn⟩ := normB_ext h2
      obtain ⟨es, st', h4, h5, h6⟩ := ih _ _ _ h3
      exact ⟨_, st', .run o rest st d res es st' hg hev hwr hn hd h4, h5, h6⟩
    · rename_i hg
      obtain ⟨es, st', h4, h5, h6⟩ := ih _ _ _ h
      exact ⟨_, st', .skip o rest st es st' hg h4, h5, h6⟩
    · exact h.elim

/-- What an entry does to the slots, and to the roots. -/
def Ent.sl (N : Nat) (e : Ent) : Nat → Option D := fun x => if e.dst = some x ∧ x < N then some e.val else none
def Ent.rw (e : Ent) : Nat → Option (Option (Option Root)) := fun r =>
  if e.n ≤ r ∧ r < e.n + e.res.new.length then some (e.res.new[r - e.n]?)
  else if r ∈ e.res.wr.map (·.1) then some (wrRT (fun _ => none) e.res.wr r) else none

theorem wrRT_pt : ∀ (ws : List (Nat × Option Root)) (rt rt' : RT) (r : Nat), (r ∈ ws.map (·.1) ∨ rt r = rt' r) → wrRT rt ws r = wrRT rt' ws r
  | [], rt, rt', r, h => by simpa [wrRT] using h
  | (q, x) :: ws, rt, rt', r, h => by
    simp only [wrRT]
    refine wrRT_pt ws _ _ r ?_
    by_cases hq : r = q
    · subst hq; exact .inr (by simp)
    · rw [RT.set_ne _ _ hq, RT.set_ne _ _ hq]
      rcases h with h | h
      · simp only [List.map_cons, List.mem_cons] at h
        exact .inl (h.resolve_left hq)
      · exact .inr h

theorem wrRT_out : ∀ (ws : List (Nat × Option Root)) (rt : RT) (r : Nat), r ∉ ws.map (·.1) → wrRT rt ws r = rt r
  | [], rt, r, _ => rfl
  | (q, x) :: ws, rt, r, h => by
    simp only [List.map_cons, List.mem_cons, not_or] at h
    simp only [wrRT]
    rw [wrRT_out ws _ r h.2, RT.set_ne _ _ h.1]

theorem Ent.rw_apply (e : Ent) (rt : RT) (r : Nat) : applyRes rt e.n e.res r = (e.rw r).getD (rt r) := by
  unfold applyRes newRT Ent.rw
  split
  · rfl
  · split
    · rename_i h; simp only [Option.getD_some]; exact wrRT_pt _ _ _ _ (.inl h)
    · rename_i h; simp only [Option.getD_none]; exact wrRT_out _ _ _ h

theorem Ent.rw_mem {e : Ent} {r : Nat} (h : e.rw r ≠ none) : r ∈ e.ws := by
  unfold Ent.rw at h
  unfold Ent.ws
  rw [List.mem_append]
  split at h
  · rename_i h1
    right
    rw [List.mem_map]
    exact ⟨r - e.n, List.mem_range.2 (by omega), by omega⟩
  · split at h
    · rename_i h1; left; exact h1
    · exact absurd rfl h

theorem memN_mem {x : Nat} : ∀ {l : List Nat}, memN x l = false → x ∉ l
  | [], _ => by simp
  | y :: ys, h => by
    simp only [memN, Bool.or_eq_false_iff] at h
    simp only [List.mem_cons, not_or]
    exact ⟨fun e => by rw [e] at h; have := h.1; simp at this, memN_mem h.2⟩
theorem meets_mem : ∀ {l m : List Nat}, meets l m = false → ∀ x ∈ l, x ∉ m
  | [], _, _, x, hx => by simp at hx
  | y :: ys, m, h, x, hx => by
    simp only [meets, Bool.or_eq_false_iff] at h
    rcases List.mem_cons.1 hx with rfl | hx
    · exact memN_mem h.1
    · exact meets_mem h.2 x hx

theorem Ent.apart_spec {e f : Ent} (h : e.apart f = true) : (∀ r, e.rw r ≠ none → f.rw r = none) ∧ (∀ r, e.rw r ≠ none → r ∉ f.res.rd) ∧ (∀ r ∈ e.res.rd, f.rw r = none) := by
  unfold Ent.apart at h
  split at h
  · rename_i h1 h2
    refine ⟨fun r hr => ?_, fun r hr => ?_, fun r _ => ?_⟩
    · have := Ent.rw_mem hr; rw [h1] at this; simp at this
    · have := Ent.rw_mem hr; rw [h1] at this; simp at this
    · cases hf : f.rw r with
      | none => rfl
      | some _ => have := Ent.rw_mem (e := f) (r := r) (by rw [hf]; simp); rw [h2] at this; simp at this
  · simp only [Bool.not_eq_true', Bool.or_eq_false_iff] at h
    obtain ⟨⟨h1, h2⟩, h3⟩ := h
    refine ⟨fun r hr => ?_, fun r hr => meets_mem h2 r (Ent.rw_mem hr), fun r hr => ?_⟩
    · cases hf : f.rw r with
      | none => rfl
      | some _ => exact absurd (Ent.rw_mem (e := f) (r := r) (by rw [hf]; simp)) (meets_mem h1 r (Ent.rw_mem hr))
    · cases hf : f.rw r with
      | none => rfl
      | some _ => exact absurd (Ent.rw_mem (e := f) (r := r) (by rw [hf]; simp)) (meets_mem h3 r hr)

theorem okLog1_spec {ops : List Oper} {e : Ent} {i : Nat} : ∀ (fs : List Ent) (j : Nat), okLog1 ops e i j fs = true → ∀ (k : Nat) f, fs[k]? = some f → e.apart f = true ∨ ((bef ops).getD (j + k) 0).testBit i = true
  | [], _, _, k, f, h => by simp at h
  | g :: fs, j, h, k, f, hf => by
    simp only [okLog1, Bool.and_eq_true, Bool.or_eq_true] at h
    cases k with
    | zero => simp only [List.getElem?_cons_zero, Option.some.injEq] at hf; subst hf; exact h.1
    | succ k =>
      have := okLog1_spec fs (j + 1) h.2 k f (by simpa using hf)
      rw [show j + (k + 1) = j + 1 + k by omega]; exact this
theorem okLog_spec {ops : List Oper} : ∀ (es : List Ent) (b : Nat), okLog ops b es = true → ∀ (i j : Nat) e f, es[i]? = some e → es[j]? = some f → i < j → e.apart f = true ∨ ((bef ops).getD (b + j) 0).testBit (b + i) = true
  | [], _, _, i, j, e, f, h, _, _ => by simp at h
  | g :: es, b, h, i, j, e, f, hi, hj, hlt => by
    simp only [okLog, Bool.and_eq_true] at h
    cases j with
    | zero => omega
    | succ j =>
      cases i with
      | zero =>
        simp only [List.getElem?_cons_zero, Option.some.injEq] at hi; subst hi
        have := okLog1_spec es (b + 1) h.1 j f (by simpa using hj)
        rw [show b + (j + 1) = b + 1 + j by omega]; exact this
      | succ i =>
        have := okLog_spec es (b + 1) h.2 i j e f (by simpa using hi) (by simpa using hj) (by omega)
        rw [show b + (j + 1) = b + 1 + j by omega, show b + (i + 1) = b + 1 + i by omega]; exact this

/-- What stands before in every order has run. -/
theorem maskOf_bit {acc : List Nat} {S : Nat → Bool} {i : Nat} (hacc : ∀ k j, S k = true → (acc.getD k 0).testBit j = true → S j = true) : ∀ (es : List Edge), (∀ e ∈ es, Region.binds .any e = true → S e.on = true) →
    (maskOf acc es).testBit i = true → S i = true
  | [], _, h => by simp [maskOf] at h
  | e :: es, he, h => by
    simp only [maskOf, Nat.testBit_or, Bool.or_eq_true] at h
    rcases h with h | h
    · by_cases hb : Region.binds .any e = true
      · rw [if_pos hb, Nat.testBit_or, Bool.or_eq_true] at h
        have hon := he e (by simp) hb
        rcases h with h | h
        · have : e.on = i := by rw [Nat.testBit_two_pow] at h; simpa using h
          rw [← this]; exact hon
        · exact hacc _ _ hon h
      · rw [if_neg hb] at h; simp at h
    · exact maskOf_bit hacc es (fun x hx => he x (by simp [hx])) h

theorem befL_get : ∀ (os : List Oper) (acc : List Nat), ∀ k, k < acc.length → (befL os acc).getD k 0 = acc.getD k 0
  | [], acc, k, _ => rfl
  | o :: os, acc, k, hk => by
    simp only [befL]
    rw [befL_get os _ k (by simp; omega)]
    simp [List.getElem?_append_left hk]

theorem befL_bit {ops : List Oper} {S : Nat → Bool} (hcl : ∀ k o, S k = true → ops[k]? = some o → ∀ e ∈ o.after.toList, Region.binds .any e = true → S e.on = true) :
    ∀ (os : List Oper) (acc : List Nat), (∀ k o, os[k]? = some o → ops[acc.length + k]? = some o) → (∀ k j, S k = true → (acc.getD k 0).testBit j = true → S j = true) →
    ∀ k j, S k = true → ((befL os acc).getD k 0).testBit j = true → S j = true
  | [], acc, _, hacc => hacc
  | o :: os, acc, hos, hacc => by
    simp only [befL]
    refine befL_bit hcl os _ (fun k o' h => ?_) (fun k j hk hj => ?_)
    · have := hos (k + 1) o' (by simpa using h)
      rw [show (acc ++ [maskOf acc o.after.toList]).length + k = acc.length + (k + 1) by simp; omega]; exact this
    · by_cases hlt : k < acc.length
      · have e1 : (acc ++ [maskOf acc o.after.toList]).getD k 0 = acc.getD k 0 := by simp [List.getElem?_append_left hlt]
        rw [e1] at hj; exact hacc k j hk hj
      · by_cases he : k = acc.length
        · subst he
          have e1 : (acc ++ [maskOf acc o.after.toList]).getD acc.length 0 = maskOf acc o.after.toList := by simp
          rw [e1] at hj
          exact maskOf_bit hacc _ (hcl acc.length o hk (by simpa using hos 0 o rfl)) hj
        · have e1 : (acc ++ [maskOf acc o.after.toList]).getD k 0 = 0 := by
            rw [List.getD_eq_getElem?_getD, List.getElem?_eq_none (by simp; omega)]; rfl
          rw [e1] at hj; simp at hj

end Go.Vm
