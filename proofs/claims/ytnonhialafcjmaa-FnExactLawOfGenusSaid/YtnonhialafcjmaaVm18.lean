/- Regions: in order, and in an order that is drawn. -/
import Derived.Test.YtnonhialafcjmaaVm17
set_option linter.unusedVariables false
set_option linter.unusedSimpArgs false
set_option linter.unusedSectionVars false
namespace Go.Vm
open Go Go.RowKit

/-- The abstract state: slots and roots. -/
structure St where
  env : List D
  rt : List (Option Root)
  deriving Inhabited

def rtOf (l : List (Option Root)) : RT := fun r => l[r]?
def wrL (l : List (Option Root)) : List (Nat × Option Root) → List (Option Root)
  | [] => l
  | (r, x) :: ws => wrL (l.set r x) ws
def setSlot (env : List D) (dst : Option Nat) (d : D) : List D :=
  match dst with
  | some i => env.set i d
  | none => env
def nextSt (st : St) (dst : Option Nat) (d : D) (res : Res) : St := ⟨setSlot st.env dst d, wrL st.rt res.wr ++ res.new⟩

def forceR : List (Option Root) → (List (Option Root) → Prop) → Prop
  | [], k => k []
  | none :: rs, k => forceR rs fun rs => k (none :: rs)
  | some ⟨true, sz, cs⟩ :: rs, k => forceL cs fun cs => forceR rs fun rs => k (some ⟨true, sz, cs⟩ :: rs)
  | some ⟨false, sz, cs⟩ :: rs, k => forceR rs fun rs => k (some ⟨false, sz, cs⟩ :: rs)
def forceS (st : St) (k : St → Prop) : Prop := forceL st.env fun env => forceR st.rt fun rt => k ⟨env, rt⟩

theorem forceR_eq : ∀ (rs : List (Option Root)) (k : List (Option Root) → Prop), forceR rs k = k rs
  | [], _ => rfl
  | none :: rs, k => by simp only [forceR, forceR_eq rs]
  | some ⟨true, sz, cs⟩ :: rs, k => by simp only [forceR, forceL_eq, forceR_eq rs]
  | some ⟨false, sz, cs⟩ :: rs, k => by simp only [forceR, forceR_eq rs]
theorem forceS_eq (st : St) (k : St → Prop) : forceS st k = k st := by simp only [forceS, forceL_eq, forceR_eq]

def normB (d : D) (k : D → Prop) : Prop :=
  match d with
  | .lit (.bool b) => (b = true → k (.kb true)) ∧ (b = false → k (.kb false))
  | d => k d

def wrOk (l : List (Option Root)) (res : Res) : Bool := res.wr.all fun x => Nat.blt x.1 l.length

def runK (P : Program) (T : Tab) (o : Oper) (st : St) (K : D → Res → Prop) : Prop :=
  forceN st.rt.length fun n => evK P T st.env (rtOf st.rt) n o.op fun res => chk (wrOk st.rt res) (normB res.val fun d => K d res)

/-- Whether a guarded operation runs. -/
def guardOn (ops : List Oper) (o : Oper) (env : List D) : Option Bool :=
  match o.guard with
  | none => some true
  | some (j, want) => match ops[j]? with
    | some oj => match oj.dst with
      | some t => match env.getD t .undef with
        | .kb b => some (b == want)
        | .lit (.tuple _) => some false
        | _ => none
      | none => none
    | none => none

/-- The value of a state, in whatever frame and world it fits. -/
def Fits (w0 : Base) (st : St) (a : Act) (w : World) : Prop :=
  ∃ own, a.defers = [] ∧ st.env.length = a.tmps.size ∧ Sim w0 (fun i => st.env.getD i .undef) (rtOf st.rt) (fun i => a.tmps.getD i Go.undef) w own

/-- Code leads from whatever fits st to what fits a state that Q tells. -/
def SVC (P : Program) (kp : Nat) (c : Code) (Q : Exit → St → Prop) (st : St) : Prop :=
  ∀ (w0 : Base) (a : Act) (w : World), w0.keep = kp → Fits w0 st a w → c.wp P (fun e a' w' => ∃ st', Fits w0 st' a' w' ∧ Q e st') a w

def resuK (T : Tab) (env : List D) (rt : RT) : List ResultVar → (List D → Prop) → Prop
  | [], K => K []
  | .tmp t :: r, K => resuK T env rt r fun ds => K (env.getD t .undef :: ds)
  | .cell a t :: r, K => loadK T rt t (env.getD a .undef) fun res => resuK T env rt r fun ds => K (res.val :: ds)

def oneD : List D → D
  | [d] => d
  | ds => .tup ds

/-- A call that is walked into. -/
def inlK (P : Program) (T : Tab) (f : D) (args : List D) (st : St) (K : D → List (Option Root) → Prop) : Prop :=
  match f with
  | .fn (.func g) fs cs => ∃ fn c, P.funcs[g]? = some fn ∧ fn.body = some c ∧ (fn.name == "runtime.NumGoroutine") = false ∧
      SVC P st.rt.length c (fun e st' => (e = .ret ∨ e = .normal) ∧ resuK T st'.env (rtOf st'.rt) fn.results.toList fun ds => normB (oneD ds) fun d => K d st'.rt)
        ⟨(fs ++ args ++ cs) ++ List.replicate (fn.ntmps - (fs ++ args ++ cs).length) .undef, st.rt⟩
  | _ => False

def orInl (P : Program) (T : Tab) (o : Oper) (st : St) (K : D → List (Option Root) → Prop) (other : Prop) : Prop :=
  match o.op with
  | .call { callee := .value f, args, .. } => other ∨ inlK P T (evO st.env f) (args.toList.map (evO st.env)) st K
  | _ => other

/-- A region in the order of the text. -/
def seqK (P : Program) (T : Tab) (ops : List Oper) : List Oper → St → (St → Prop) → Prop
  | [], st, K => K st
  | o :: rest, st, K => match guardOn ops o st.env with
    | some true => orInl P T o st (fun d rt => forceS ⟨setSlot st.env o.dst d, rt⟩ fun st => seqK P T ops rest st K) (runK P T o st fun d res => forceS (nextSt st o.dst d res) fun st => seqK P T ops rest st K)
    | some false => forceS ⟨setSlot st.env o.dst (.lit Go.undef), st.rt⟩ fun st => seqK P T ops rest st K
    | none => False

theorem wrRT_rtOf : ∀ (ws : List (Nat × Option Root)) (l : List (Option Root)), (∀ x ∈ ws, x.1 < l.length) → wrRT (rtOf l) ws = rtOf (wrL l ws) ∧ (wrL l ws).length = l.length := by
  intro ws
  induction ws with
  | nil => intro l _; exact ⟨rfl, rfl⟩
  | cons x ws ih =>
    intro l h
    obtain ⟨r, y⟩ := x
    have hr : r < l.length := h (r, y) (by simp)
    have e1 : (rtOf l).set r y = rtOf (l.set r y) := by
      funext q
      unfold RT.set rtOf
      split
      · rename_i e; subst e; rw [List.getElem?_set_self hr]
      · rename_i e; rw [List.getElem?_set_ne (Ne.symm e)]
    obtain ⟨h1, h2⟩ := ih (l.set r y) (fun x hx => by simpa using h x (by simp [hx]))
    simp only [wrRT, wrL, e1]
    exact ⟨h1, by rw [h2]; simp⟩

theorem newRT_rtOf (l new : List (Option Root)) : newRT (rtOf l) l.length new = rtOf (l ++ new) := by
  funext q
  unfold newRT rtOf
  by_cases h : l.length ≤ q
  · by_cases h2 : q < l.length + new.length
    · rw [if_pos ⟨h, h2⟩, List.getElem?_append_right h]
    · rw [if_neg (fun h3 => h2 h3.2), List.getElem?_eq_none h, List.getElem?_eq_none (by simp; omega)]
  · rw [if_neg (fun h3 => h h3.1), List.getElem?_append_left (by omega)]

theorem wrOk_lt {l : List (Option Root)} {res : Res} (h : wrOk l res = true) : ∀ x ∈ res.wr, x.1 < l.length := fun x hx => by
  have := List.all_eq_true.1 h x hx
  simpa [Nat.blt_eq] using this

theorem applyRes_rtOf {l : List (Option Root)} {res : Res} (h : wrOk l res = true) : applyRes (rtOf l) l.length res = rtOf (wrL l res.wr ++ res.new) := by
  obtain ⟨h1, h2⟩ := wrRT_rtOf res.wr l (wrOk_lt h)
  unfold applyRes
  rw [h1, ← h2, newRT_rtOf]

theorem rtOf_none {l : List (Option Root)} {r : Nat} (h : l.length ≤ r) : rtOf l r = none := List.getElem?_eq_none h

section
variable {P : Program} {T : Tab} {w0 : Base} {w : World} {a : Act}

theorem put_getD (a : Act) (dst : Option Tmp) (v : Value) (i : Nat) : (a.put dst v).tmps.getD i Go.undef = if dst = some i ∧ i < a.tmps.size then v else a.tmps.getD i Go.undef := by
  cases dst with
  | none => simp [Act.put]
  | some d =>
    simp only [Act.put, Option.some.injEq]
    by_cases hd : d = i
    · subst hd
      by_cases hlt : d < a.tmps.size
      · rw [if_pos ⟨rfl, hlt⟩]; simp [hlt]
      · rw [if_neg (fun h => hlt h.2)]
        simp [Array.getElem?_eq_none (Nat.le_of_not_lt hlt), hlt]
    · rw [if_neg (fun h => hd h.1)]
      simp [Array.getElem?_setIfInBounds_ne hd]

theorem setSlot_getD (env : List D) (dst : Option Nat) (d : D) (i : Nat) : (setSlot env dst d).getD i .undef = if dst = some i ∧ i < env.length then d else env.getD i .undef := by
  cases dst with
  | none => simp [setSlot]
  | some k =>
    simp only [setSlot, Option.some.injEq, List.getD_eq_getElem?_getD]
    by_cases hd : k = i
    · subst hd
      by_cases hlt : k < env.length
      · rw [if_pos ⟨rfl, hlt⟩]; simp [hlt]
      · rw [if_neg (fun h => hlt h.2)]
        simp [List.getElem?_eq_none (Nat.le_of_not_lt hlt), hlt]
    · rw [if_neg (fun h => hd h.1)]
      simp [List.getElem?_set_ne hd]

@[simp] theorem setSlot_length (env : List D) (dst : Option Nat) (d : D) : (setSlot env dst d).length = env.length := by cases dst <;> simp [setSlot]
@[simp] theorem put_size (a : Act) (dst : Option Tmp) (v : Value) : (a.put dst v).tmps.size = a.tmps.size := by cases dst <;> simp [Act.put]
@[simp] theorem put_defers' (a : Act) (dst : Option Tmp) (v : Value) : (a.put dst v).defers = a.defers := by cases dst <;> rfl

/-- One slot is set. -/
theorem Sim.putSlot {env : List D} {rt : RT} {own : Nat → Option Lab} (hs : Sim w0 (fun i => env.getD i .undef) rt (fun i => a.tmps.getD i Go.undef) w own) (hl : env.length = a.tmps.size) (dst : Option Tmp) {d : D} {v : Value}
    (hm : Mt w (okb w own) own rt d v) : Sim w0 (fun i => (setSlot env dst d).getD i .undef) rt (fun i => (a.put dst v).tmps.getD i Go.undef) w own := by
  refine hs.put fun i => ?_
  simp only [put_getD, setSlot_getD, hl]
  by_cases h : dst = some i ∧ i < a.tmps.size
  · right; rw [if_pos h, if_pos h]; exact hm
  · left; rw [if_neg h, if_neg h]; exact ⟨rfl, rfl⟩

theorem normB_mt {rt : RT} {ok : Nat → Prop} {own : Nat → Option Lab} {d : D} {v : Value} {k : D → Prop} (h : normB d k) (hm : Mt w ok own rt d v) : ∃ d', k d' ∧ Mt w ok own rt d' v := by
  unfold normB at h
  split at h
  · rename_i b
    have hv := hm.lit_inv
    subst hv
    cases b with
    | true => exact ⟨_, h.1 rfl, .sh _ _ (.kb _)⟩
    | false => exact ⟨_, h.2 rfl, .sh _ _ (.kb _)⟩
  · exact ⟨_, h, hm⟩

theorem guardOn_wanted {ops : Array Oper} {o : Oper} {env : List D} {rt : RT} {own : Nat → Option Lab} (hs : Sim w0 (fun i => env.getD i .undef) rt (fun i => a.tmps.getD i Go.undef) w own) {b : Bool}
    (h : guardOn ops.toList o env = some b) : Region.wanted o (yielded ops a.tmps) = b := by
  unfold guardOn at h
  unfold Region.wanted
  split at h
  · rename_i e; rw [e]; simpa using h
  · rename_i j want e
    rw [e]
    split at h
    · rename_i oj hj
      split at h
      · rename_i t ht
        split at h
        · rename_i b' hb
          simp only [Option.some.injEq] at h
          have : Mt w (okb w own) own rt (env.getD t .undef) (a.tmps.getD t Go.undef) := hs.env t
          rw [hb] at this
          have hv := this.kb_inv
          have hy : yielded ops a.tmps j = some b' := by
            unfold yielded
            have hj' : ops[j]? = some oj := by simpa using hj
            rw [hj']
            simp only [Option.bind_some, ht]
            cases hg : a.tmps[t]? with
            | none => simp [hg, Go.undef] at hv
            | some u => simp [hg] at hv; rw [hv]
          simp only [hy, ← h]
          cases b' <;> cases want <;> rfl
        · rename_i vs hb
          simp only [Option.some.injEq] at h
          have : Mt w (okb w own) own rt (env.getD t .undef) (a.tmps.getD t Go.undef) := hs.env t
          rw [hb] at this
          have hv := this.lit_inv
          have hy : yielded ops a.tmps j = none := by
            unfold yielded
            have hj' : ops[j]? = some oj := by simpa using hj
            rw [hj']
            simp only [Option.bind_some, ht]
            cases hg : a.tmps[t]? with
            | none => rfl
            | some u => simp [hg] at hv; rw [hv]
          simp only [hy, ← h]
          cases want <;> rfl
        · cases h
      · cases h
    · cases h

def resOne (tmps : Array Value) : ResultVar → Sem Value
  | .tmp t => pure (tmps.getD t Go.undef)
  | .cell a t => do loadVar t (← asAddr (tmps.getD a Go.undef))

theorem results_eq (fn : Func) (tmps : Array Value) : results fn tmps = (do
    let vs ← fn.results.mapM (resOne tmps)
    pure (if h : vs.size = 1 then vs[0] else .tuple vs)) := by
  unfold results
  congr 2

theorem resu_sound (hT : TabOk P T) {env : List D} {rt : RT} {own : Nat → Option Lab} (hs : Sim w0 (fun i => env.getD i .undef) rt (fun i => a.tmps.getD i Go.undef) w own) : ∀ (l : List ResultVar) (K : List D → Prop), resuK T env rt l K →
    ∃ ds vs, K ds ∧ vs.length = l.length ∧ ds.length = l.length ∧ (∀ (i : Nat) d v, ds[i]? = some d → vs[i]? = some v → Mt w (okb w own) own rt d v) ∧
      (l.mapM (resOne a.tmps)).run P w = .ok vs w := by
  intro l
  induction l with
  | nil => intro K h; exact ⟨[], [], h, rfl, rfl, fun i d v h => by simp at h, by simp⟩
  | cons x l ih =>
    intro K h
    cases x with
    | tmp t =>
      obtain ⟨ds, vs, h1, h2, h3, h4, h5⟩ := ih _ h
      refine ⟨_, a.tmps.getD t Go.undef :: vs, h1, by simp [h2], by simp [h3], fun i d v k1 k2 => ?_, by rw [List.mapM_cons]; simp only [resOne, Sem.run_bind, Sem.run_pure, Result.andThen_ok, h5]⟩
      cases i with
      | zero => simp at k1 k2; subst k1; subst k2; simpa using hs.env t
      | succ i => exact h4 i d v (by simpa using k1) (by simpa using k2)
    | cell y t =>
      simp only [resuK] at h
      obtain ⟨v0, res, h, _, _, hm, hr⟩ := load_val (P := P) (a := a) hT hs t (hs.env y) h
      obtain ⟨ds, vs, h1, h2, h3, h4, h5⟩ := ih _ h
      have hr' : (resOne a.tmps (.cell y t)).run P w = .ok v0 w := by
        have hr2 : (Instr.loadAt t (a.tmps.getD y Go.undef)).run P w = .ok v0 w := hr
        clear hr
        show (do loadVar t (← asAddr (a.tmps.getD y Go.undef)) : Sem Value).run P w = .ok v0 w
        generalize a.tmps.getD y Go.undef = av at hr2 ⊢
        cases av with
        | pointer p => cases p with
          | some ad => simpa [Instr.loadAt, Instr.sureAddr, asAddr] using hr2
          | none => simp [Instr.loadAt, Instr.sureAddr, stuck, Sem.run] at hr2
        | _ => simp [Instr.loadAt, Instr.sureAddr, stuck, Sem.run] at hr2
      refine ⟨_, v0 :: vs, h1, by simp [h2], by simp [h3], fun i d v k1 k2 => ?_, ?_⟩
      · cases i with
        | zero => simp at k1 k2; subst k1; subst k2; exact hm
        | succ i => exact h4 i d v (by simpa using k1) (by simpa using k2)
      · rw [List.mapM_cons]
        simp only [Sem.run_bind, hr', Result.andThen_ok, h5, Sem.run_pure]

theorem results_sound (hT : TabOk P T) {env : List D} {rt : RT} {own : Nat → Option Lab} (hs : Sim w0 (fun i => env.getD i .undef) rt (fun i => a.tmps.getD i Go.undef) w own) (fn : Func) {K : D → Prop}
    (h : resuK T env rt fn.results.toList fun ds => normB (oneD ds) K) : ∃ d v, K d ∧ Mt w (okb w own) own rt d v ∧ (results fn a.tmps).run P w = .ok v w := by
  obtain ⟨ds, vs, h1, h2, h3, h4, h5⟩ := resu_sound (P := P) hT hs _ _ h
  have hm : Mt w (okb w own) own rt (oneD ds) (if h : vs.toArray.size = 1 then vs.toArray[0] else .tuple vs.toArray) := by
    by_cases hl : vs.length = 1
    · obtain ⟨v, rfl⟩ := List.length_eq_one_iff.1 hl
      obtain ⟨d, rfl⟩ := List.length_eq_one_iff.1 (show ds.length = 1 by rw [h3, ← h2]; rfl)
      exact h4 0 d v rfl rfl
    · have e1 : oneD ds = .tup ds := by
        match ds, h3 with
        | [], _ => rfl
        | [d], h3 => exact absurd (by rw [h2, ← h3]; rfl) hl
        | _ :: _ :: _, _ => rfl
      rw [e1, dif_neg (by simpa using hl)]
      exact .tup _ _ (by simp [h2, h3]) (fun i d v k1 k2 => h4 i d v k1 (by simpa using k2))
  obtain ⟨d, hk, hm'⟩ := normB_mt h1 hm
  refine ⟨d, _, hk, hm', ?_⟩
  rw [results_eq, Array.mapM_eq_mapM_toList]
  simp [Sem.run_bind, h5]

end
end Go.Vm
