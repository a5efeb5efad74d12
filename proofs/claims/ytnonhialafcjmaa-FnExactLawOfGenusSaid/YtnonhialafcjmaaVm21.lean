/- Regions whose order is drawn: the theorem. -/
import Derived.Test.YtnonhialafcjmaaVm20
set_option linter.unusedVariables false
set_option linter.unusedSimpArgs false
set_option linter.unusedSectionVars false
namespace Go.Vm
open Go Go.RowKit

theorem fl_shift {V : Type} : ∀ (ws : List (Nat → Option V)) (k : Nat) (S : Nat → Bool) (s : Nat → V), fl ws (k + 1) S s = fl ws k (fun n => S (n + 1)) s
  | [], _, _, _ => rfl
  | w :: ws, k, S, s => by simp only [fl]; rw [fl_shift ws (k + 1)]

theorem fl_false {V : Type} (x : Nat) (ws : List (Nat → Option V)) (S : Nat → Bool) (s : Nat → V) (h : ∀ (j : Nat) w, ws[j]? = some w → w x ≠ none → S j = false) : fl ws 0 S s x = s x := by
  have h1 := fl_congr x ws 0 S (fun _ => false) s s (fun j w hj hw => by rw [Nat.zero_add]; exact h j w hj hw) rfl
  rw [h1]
  have : ∀ (ws : List (Nat → Option V)) (k : Nat), fl ws k (fun _ => false) s = s := by
    intro ws
    induction ws with
    | nil => intro k; rfl
    | cons w ws ih => intro k; simp only [fl, Bool.false_eq_true, if_false]; exact ih (k + 1)
  rw [this]

/-- The state of the walk before each operation. -/
structure AtOp (P : Program) (T : Tab) (ops : List Oper) (st : St) (es : List Ent) (i : Nat) (o : Oper) (e : Ent) (s : St) : Prop where
  env : ∀ x, s.env.getD x .undef = fl (es.map (Ent.sl st.env.length)) 0 (fun k => decide (k < i)) (fun x => st.env.getD x .undef) x
  rt : ∀ r, rtOf s.rt r = fl (es.map Ent.rw) 0 (fun k => decide (k < i)) (rtOf st.rt) r
  n : e.n = s.rt.length
  dst : e.dst = o.dst
  low : st.rt.length ≤ e.n
  ahead : ∀ (j : Nat) f, j < i → es[j]? = some f → (∀ r ∈ f.ws, r < e.n)
  step : (guardOn ops o s.env = some true ∧
      (∀ (env' : List D) (rt' : RT), (∀ x ∈ o.op.operands, evO env' x = evO s.env x) → (∀ r ∈ e.res.rd, rt' r = rtOf s.rt r) → evK P T env' rt' e.n o.op (· = e.res)) ∧
      (∀ (v : Value) (w : World) ok own rt, Mt w ok own rt e.res.val v → Mt w ok own rt e.val v)) ∨
    (guardOn ops o s.env = some false ∧ e.val = .lit Go.undef ∧ e.res = { val := .undef })

theorem nextSt_env (st : St) (dst : Option Nat) (d : D) (res : Res) : (nextSt st dst d res).env = setSlot st.env dst d := rfl

theorem Ent.sl_apply (e : Ent) (env : List D) (d : D) (hd : e.val = d) (x : Nat) : (setSlot env e.dst d).getD x .undef = (e.sl env.length x).getD (env.getD x .undef) := by
  rw [setSlot_getD]
  unfold Ent.sl
  split <;> simp [hd]

theorem wrL_length : ∀ (ws : List (Nat × Option Root)) (l : List (Option Root)), (wrL l ws).length = l.length
  | [], _ => rfl
  | (r, x) :: ws, l => by simp only [wrL]; rw [wrL_length ws]; simp

theorem Trc.facts {P : Program} {T : Tab} {ops : List Oper} {rest : List Oper} {st : St} {es : List Ent} {st' : St} (h : Trc P T ops rest st es st') :
    es.length = rest.length ∧ st'.env.length = st.env.length ∧
    (∀ x, st'.env.getD x .undef = fl (es.map (Ent.sl st.env.length)) 0 (fun _ => true) (fun x => st.env.getD x .undef) x) ∧
    (∀ r, rtOf st'.rt r = fl (es.map Ent.rw) 0 (fun _ => true) (rtOf st.rt) r) ∧
    ∀ (i : Nat) o e, rest[i]? = some o → es[i]? = some e → ∃ s, AtOp P T ops st es i o e s := by
  have go : ∀ (o : Oper) (rest : List Oper) (st st1 : St) (e : Ent) (es : List Ent) (st' : St), st1.env = setSlot st.env e.dst e.val → e.dst = o.dst → e.n = st.rt.length → (∀ r ∈ e.res.wr.map (·.1), r < st.rt.length) →
      (∀ r, rtOf st1.rt r = (e.rw r).getD (rtOf st.rt r)) → st1.rt.length = st.rt.length + e.res.new.length →
      ((guardOn ops o st.env = some true ∧
        (∀ (env' : List D) (rt' : RT), (∀ x ∈ o.op.operands, evO env' x = evO st.env x) → (∀ r ∈ e.res.rd, rt' r = rtOf st.rt r) → evK P T env' rt' e.n o.op (· = e.res)) ∧
        (∀ (v : Value) (w : World) ok own rt, Mt w ok own rt e.res.val v → Mt w ok own rt e.val v)) ∨
       (guardOn ops o st.env = some false ∧ e.val = .lit Go.undef ∧ e.res = { val := .undef })) →
      (es.length = rest.length ∧ st'.env.length = st1.env.length ∧
        (∀ x, st'.env.getD x .undef = fl (es.map (Ent.sl st1.env.length)) 0 (fun _ => true) (fun x => st1.env.getD x .undef) x) ∧
        (∀ r, rtOf st'.rt r = fl (es.map Ent.rw) 0 (fun _ => true) (rtOf st1.rt) r) ∧
        ∀ (i : Nat) o e, rest[i]? = some o → es[i]? = some e → ∃ s, AtOp P T ops st1 es i o e s) →
      (e :: es).length = (o :: rest).length ∧ st'.env.length = st.env.length ∧
        (∀ x, st'.env.getD x .undef = fl ((e :: es).map (Ent.sl st.env.length)) 0 (fun _ => true) (fun x => st.env.getD x .undef) x) ∧
        (∀ r, rtOf st'.rt r = fl ((e :: es).map Ent.rw) 0 (fun _ => true) (rtOf st.rt) r) ∧
        ∀ (i : Nat) o' e', (o :: rest)[i]? = some o' → (e :: es)[i]? = some e' → ∃ s, AtOp P T ops st (e :: es) i o' e' s := by
    intro o rest st st1 e es st' henv hdst hn hwr hrt hlen hstep ⟨h1, h2, h3, h4, h5⟩
    have hl1 : st1.env.length = st.env.length := by rw [henv]; simp
    have hs1 : (fun x => st1.env.getD x .undef) = (fun x => (e.sl st.env.length x).getD (st.env.getD x .undef)) := by
      funext x; rw [henv]; exact Ent.sl_apply e st.env _ rfl x
    have hr1 : rtOf st1.rt = (fun r => (e.rw r).getD (rtOf st.rt r)) := funext hrt
    rw [hl1, hs1] at h3
    rw [hr1] at h4
    refine ⟨by simp [h1], by rw [h2, hl1], fun x => ?_, fun r => ?_, fun i o' e' ho he => ?_⟩
    · rw [h3 x, List.map_cons, fl, fl_shift]; rfl
    · rw [h4 r, List.map_cons, fl, fl_shift]; rfl
    · cases i with
      | zero =>
        simp only [List.getElem?_cons_zero, Option.some.injEq] at ho he
        subst ho; subst he
        refine ⟨st, fun x => ?_, fun r => ?_, hn, hdst, by rw [hn]; exact Nat.le_refl _, fun j f hj => by omega, hstep⟩
        · exact (fl_false x ((e :: es).map (Ent.sl st.env.length)) (fun k => decide (k < 0)) (fun x => st.env.getD x .undef) (fun j w _ _ => decide_eq_false (by omega))).symm
        · exact (fl_false r ((e :: es).map Ent.rw) (fun k => decide (k < 0)) (rtOf st.rt) (fun j w _ _ => decide_eq_false (by omega))).symm
      | succ i =>
        obtain ⟨s, hs⟩ := h5 i o' e' (by simpa using ho) (by simpa using he)
        refine ⟨s, fun x => ?_, fun r => ?_, hs.n, hs.dst, by have := hs.low; omega, fun j f hj hf => ?_, hs.step⟩
        · have e1 := hs.env x
          rw [hl1, hs1] at e1
          rw [e1, List.map_cons, fl, fl_shift]
          simp only [Nat.zero_lt_succ, decide_true, if_true, Nat.succ_eq_add_one, Nat.add_lt_add_iff_right]
        · have e1 := hs.rt r
          rw [hr1] at e1
          rw [e1, List.map_cons, fl, fl_shift]
          simp only [Nat.zero_lt_succ, decide_true, if_true, Nat.succ_eq_add_one, Nat.add_lt_add_iff_right]
        · cases j with
          | zero =>
            simp only [List.getElem?_cons_zero, Option.some.injEq] at hf
            subst hf
            intro r hr
            have := hs.low
            unfold Ent.ws at hr
            rcases List.mem_append.1 hr with h | h
            · have := hwr r h; omega
            · simp only [List.mem_map, List.mem_range] at h
              obtain ⟨k, hk, rfl⟩ := h
              omega
          | succ j => exact hs.ahead j f (by omega) (by simpa using hf)
  induction h with
  | nil st => exact ⟨rfl, rfl, fun x => rfl, fun r => rfl, fun i o e h => by simp at h⟩
  | run o rest st d res es st' hg hev hwr hn hd h ih =>
    refine go o rest st (nextSt st o.dst d res) { dst := o.dst, val := d, res := res, n := st.rt.length } es st' rfl rfl rfl (fun r hr => ?_) (fun r => ?_) ?_ (.inl ⟨hg, hev, fun v w ok own rt hm => hn v w ok own rt hm hd⟩) ih
    · simp only [List.mem_map] at hr
      obtain ⟨x, hx, rfl⟩ := hr
      exact wrOk_lt hwr x hx
    · have e1 := Ent.rw_apply { dst := o.dst, val := d, res := res, n := st.rt.length } (rtOf st.rt) r
      rw [← e1]
      simp only [nextSt]
      rw [applyRes_rtOf hwr]
    · simp [nextSt, wrL_length]
  | skip o rest st es st' hg h ih =>
    refine go o rest st ⟨setSlot st.env o.dst (.lit Go.undef), st.rt⟩ { dst := o.dst, val := .lit Go.undef, res := { val := .undef }, n := st.rt.length } es st' rfl rfl rfl (fun r hr => by simp at hr) (fun r => ?_) (by simp) (.inr ⟨hg, rfl, rfl⟩) ih
    have : Ent.rw { dst := o.dst, val := .lit Go.undef, res := { val := .undef }, n := st.rt.length } r = none := by
      unfold Ent.rw; rw [if_neg (by simp), if_neg (by simp)]
    rw [this]; rfl

theorem countP_lt {α : Type} (p q : α → Bool) : ∀ (l : List α), (∀ x ∈ l, q x = true → p x = true) → (∃ x ∈ l, p x = true ∧ q x = false) → l.countP q < l.countP p := by
  intro l
  induction l with
  | nil => intro _ ⟨x, hx, _⟩; cases hx
  | cons y ys ih =>
    intro h ⟨x, hx, hp, hq⟩
    have hle : ys.countP q ≤ ys.countP p := List.countP_mono_left (fun z hz => h z (by simp [hz]))
    rw [List.countP_cons, List.countP_cons]
    rcases List.mem_cons.1 hx with rfl | hx
    · simp [hp, hq]; omega
    · have := ih (fun z hz => h z (by simp [hz])) ⟨x, hx, hp, hq⟩
      have h1 := h y (by simp)
      cases hqy : q y with
      | true => simp [h1 hqy]; omega
      | false => simp; omega

theorem guardOn_congr {ops : Array Oper} {o : Oper} {env env' : List D} (h : ∀ t ∈ o.looksAt ops, env'.getD t .undef = env.getD t .undef) : guardOn ops.toList o env' = guardOn ops.toList o env := by
  unfold guardOn
  cases hg : o.guard with
  | none => rfl
  | some g =>
    obtain ⟨j, want⟩ := g
    simp only
    cases hj : ops.toList[j]? with
    | none => rfl
    | some oj =>
      simp only
      cases ht : oj.dst with
      | none => rfl
      | some t =>
        simp only
        rw [h t]
        unfold Oper.looksAt
        rw [hg]
        have : ops[j]? = some oj := by simpa using hj
        simp [this, ht]

theorem evO_congr {env env' : List D} {x : Operand} (h : ∀ t, x = .tmp t → env'.getD t .undef = env.getD t .undef) : evO env' x = evO env x := by
  cases x with
  | tmp t => exact h t rfl
  | const v => cases v <;> rfl
  | global g => rfl
  | func f => rfl

section
variable {P : Program} {T : Tab}

theorem draw_region (hT : TabOk P T) (hm : P.follows .mixedOrders = true) {kp id : Nat} {ops : Array Oper} {K : St → Prop} {st : St} {Q : Exit → St → Prop} (hsl : slotsOk ops = true)
    (h : drawK P T ops.toList ops.toList st (fun l => l) K) (hK : ∀ st', K st' → Q .normal st') : SVC P kp (.region id ops true) Q st := by
  obtain ⟨es, st', htr, hlog, hk⟩ := drawK_trc _ _ _ _ h
  obtain ⟨hlen, hel, hfe, hfr, hat⟩ := htr.facts
  have hN : es.length = ops.size := by rw [hlen]; simp
  -- the text
  have hsl1 : ∀ j oj, ops[j]? = some oj → (∀ e ∈ oj.after.toList, Region.binds .any e = true → e.on < j) ∧ ∀ i oi, i < j → ops[i]? = some oi → ((bef ops.toList).getD j 0).testBit i = true ∨ oi.apart ops oj = true := by
    intro j oj hj
    have hjl : j < ops.size := (Array.getElem?_eq_some_iff.1 hj).1
    have := List.all_eq_true.1 hsl j (List.mem_range.2 hjl)
    simp only [hj, Bool.and_eq_true] at this
    refine ⟨fun e he hb => ?_, fun i oi hi hoi => ?_⟩
    · have h1 := List.all_eq_true.1 this.1 e he
      simp only [hb, Bool.not_true, Bool.false_or, Nat.blt_eq] at h1
      exact h1
    · have h1 := List.all_eq_true.1 this.2 i (List.mem_range.2 hi)
      simp only [hoi, Bool.or_eq_true] at h1
      exact h1
  intro w0 a w _ hf
  obtain ⟨own, hd, hl, hs⟩ := hf
  let F : (Nat → Bool) → Nat → D := fun S => fl (es.map (Ent.sl st.env.length)) 0 S (fun x => st.env.getD x .undef)
  let G : (Nat → Bool) → RT := fun S => fl (es.map Ent.rw) 0 S (rtOf st.rt)
  let sOf : Array Bool → Nat → Bool := fun listed k => listed.getD k false
  have key : ∀ (fuel : Nat) (listed : Array Bool) (a : Act) (w : World), listed.size = ops.size → (List.range ops.size).countP (fun i => !listed.getD i true) ≤ fuel →
      (∀ k o, sOf listed k = true → ops[k]? = some o → ∀ e ∈ o.after.toList, Region.binds .any e = true → sOf listed e.on = true) →
      (∃ (own : Nat → Option Lab) (envS : List D), a.defers = [] ∧ envS.length = a.tmps.size ∧ envS.length = st.env.length ∧ (∀ x, envS.getD x .undef = F (sOf listed) x) ∧ Sim w0 (fun i => envS.getD i .undef) (G (sOf listed)) (fun i => a.tmps.getD i Go.undef) w own) →
      wpAny P .any ops (fun e a' w' => ∃ st', Fits w0 st' a' w' ∧ Q e st') fuel listed a w := by
    intro fuel
    have done : ∀ (listed : Array Bool) (a : Act) (w : World), listed.size = ops.size → Region.ready .any ops listed = [] →
        (∃ (own : Nat → Option Lab) (envS : List D), a.defers = [] ∧ envS.length = a.tmps.size ∧ envS.length = st.env.length ∧ (∀ x, envS.getD x .undef = F (sOf listed) x) ∧ Sim w0 (fun i => envS.getD i .undef) (G (sOf listed)) (fun i => a.tmps.getD i Go.undef) w own) →
        ∃ st', Fits w0 st' a w ∧ Q .normal st' := by
      intro listed a w hsz hr ⟨own, envS, k1, k2, k3, k4, k5⟩
      have hall : ∀ i, i < ops.size → sOf listed i = true := by
        intro i
        induction i using Nat.strongRecOn with
        | _ i ih =>
          intro hi
          cases hsi : sOf listed i with
          | true => rfl
          | false =>
            have hmem : i ∈ Region.ready .any ops listed := by
              rw [mem_ready]
              have hi2 : i < listed.size := by omega
              refine ⟨?_, ops[i], Array.getElem?_eq_getElem hi, fun e he hb => ?_⟩
              · simp only [sOf] at hsi
                simp only [Array.getD_eq_getD_getElem?, Array.getElem?_eq_getElem hi2, Option.getD_some] at hsi ⊢
                exact hsi
              · have hlt := (hsl1 i ops[i] (Array.getElem?_eq_getElem hi)).1 e (by simpa using he) hb
                exact ih e.on hlt (by omega)
            rw [hr] at hmem; cases hmem
      refine ⟨st', ⟨own, k1, by rw [hel, ← k3]; exact k2, ?_⟩, hK st' hk⟩
      have e1 : (fun i => st'.env.getD i .undef) = (fun i => envS.getD i .undef) := by
        funext x
        rw [hfe x, k4 x]
        exact fl_congr x _ 0 _ _ _ _ (fun j w' hj _ => by
          have : j < ops.size := by rw [← hN]; simpa using (List.getElem?_eq_some_iff.1 hj).1
          rw [Nat.zero_add]; exact (hall j this).symm) rfl
      have e2 : rtOf st'.rt = G (sOf listed) := by
        funext r
        rw [hfr r]
        exact fl_congr r _ 0 _ _ _ _ (fun j w' hj _ => by
          have : j < ops.size := by rw [← hN]; simpa using (List.getElem?_eq_some_iff.1 hj).1
          rw [Nat.zero_add]; exact (hall j this).symm) rfl
      rw [e1, e2]; exact k5
    induction fuel with
    | zero =>
      intro listed a w hsz hcnt hcl hst
      have hr : Region.ready .any ops listed = [] := by
        refine List.eq_nil_iff_forall_not_mem.2 fun i hi => ?_
        obtain ⟨h1, o, ho, _⟩ := mem_ready.1 hi
        have hlt := (Array.getElem?_eq_some_iff.1 ho).1
        have : 0 < (List.range ops.size).countP (fun i => !listed.getD i true) := List.countP_pos_iff.2 ⟨i, List.mem_range.2 hlt, by rw [h1]; rfl⟩
        omega
      exact ⟨hr, done listed a w hsz hr hst⟩
    | succ fuel ih =>
      intro listed a w hsz hcnt hcl hst
      refine ⟨fun hr => done listed a w hsz hr hst, fun i hi => ?_⟩
      obtain ⟨hun, o, ho, hedges⟩ := mem_ready.1 hi
      have hlt := (Array.getElem?_eq_some_iff.1 ho).1
      have hSi : sOf listed i = false := by
        simp only [sOf]
        have hi2 : i < listed.size := by omega
        simp only [Array.getD_eq_getD_getElem?, Array.getElem?_eq_getElem hi2, Option.getD_some] at hun ⊢
        exact hun
      obtain ⟨e, he⟩ : ∃ e, es[i]? = some e := ⟨_, List.getElem?_eq_getElem (by omega)⟩
      obtain ⟨s, hs⟩ := hat i o e (by simpa using ho) he
      obtain ⟨own, envS, k1, k2, k3, k4, k5⟩ := hst
      -- the set with i
      have hcl' : ∀ k o', addS (sOf listed) i k = true → ops.toList[k]? = some o' → ∀ e ∈ o'.after.toList, Region.binds .any e = true → addS (sOf listed) i e.on = true := by
        intro k o' hk ho' e he hb
        have ho2 : ops[k]? = some o' := by simpa using ho'
        unfold addS at hk ⊢
        simp only [Bool.or_eq_true, beq_iff_eq] at hk ⊢
        rcases hk with rfl | hk
        · rw [ho] at ho2; cases ho2
          right; exact hedges e (by simpa using he) hb
        · right; exact hcl k o' hk ho2 e he hb
      have bit1 : ∀ j, j ≠ i → ((bef ops.toList).getD i 0).testBit j = true → sOf listed j = true := by
        intro j hj hb
        have := befL_bit (ops := ops.toList) (S := addS (sOf listed) i) hcl' ops.toList [] (fun k o' h => by simpa using h) (fun k j _ h => by simp at h) i j (by simp [addS]) hb
        unfold addS at this
        simpa [hj] using this
      have bit2 : ∀ j, sOf listed j = true → ((bef ops.toList).getD j 0).testBit i = true → False := by
        intro j hj hb
        have := befL_bit (ops := ops.toList) (S := sOf listed) (fun k o' hk ho' => hcl k o' hk (by simpa using ho')) ops.toList [] (fun k o' h => by simpa using h) (fun k j _ h => by simp at h) j i hj hb
        rw [hSi] at this; cases this
      have entOp : ∀ (j : Nat) f, es[j]? = some f → ∃ oj, ops[j]? = some oj ∧ f.dst = oj.dst := fun j f hf => by
        have hjl : j < ops.size := by rw [← hN]; exact (List.getElem?_eq_some_iff.1 hf).1
        obtain ⟨s', hs'⟩ := hat j ops[j] f (by simp [hjl]) hf
        exact ⟨ops[j], Array.getElem?_eq_getElem hjl, hs'.dst⟩
      -- slots that the operation names
      have slot : ∀ t, (t ∈ o.looksAt ops ∨ o.dst = some t) → ∀ (j : Nat) f, es[j]? = some f → j ≠ i → f.dst = some t → (sOf listed j = decide (j < i)) := by
        intro t ht j f hf hji hdt
        obtain ⟨oj, hoj, hdj⟩ := entOp j f hf
        rw [hdj] at hdt
        by_cases hlt' : j < i
        · rw [decide_eq_true hlt']
          rcases (hsl1 i o ho).2 j oj hlt' hoj with h | h
          · exact bit1 j hji h
          · obtain ⟨a1, a2, a3⟩ := Oper.apart_spec h
            rcases ht with ht | ht
            · exact absurd ht (a1 t hdt)
            · exact absurd ht (a2 t hdt)
        · rw [decide_eq_false hlt']
          have hij : i < j := by omega
          cases hsj : sOf listed j with
          | false => rfl
          | true =>
            rcases (hsl1 j oj hoj).2 i o hij ho with h | h
            · exact (bit2 j hsj h).elim
            · obtain ⟨a1, a2, a3⟩ := Oper.apart_spec h
              rcases ht with ht | ht
              · exact absurd ht (a3 t hdt)
              · exact absurd hdt (a2 t ht)
      have root : ∀ r, (r ∈ e.res.rd ∨ e.rw r ≠ none) → ∀ (j : Nat) f, es[j]? = some f → j ≠ i → f.rw r ≠ none → (sOf listed j = decide (j < i)) := by
        intro r hr j f hf hji hfr'
        by_cases hlt' : j < i
        · rw [decide_eq_true hlt']
          rcases okLog_spec es 0 hlog j i f e hf he hlt' with h | h
          · obtain ⟨a1, a2, a3⟩ := Ent.apart_spec h
            rcases hr with hr | hr
            · exact absurd hr (a2 r hfr')
            · exact absurd (a1 r hfr') hr
          · simp only [Nat.zero_add] at h; exact bit1 j hji h
        · rw [decide_eq_false hlt']
          have hij : i < j := by omega
          cases hsj : sOf listed j with
          | false => rfl
          | true =>
            rcases okLog_spec es 0 hlog i j e f he hf hij with h | h
            · obtain ⟨a1, a2, a3⟩ := Ent.apart_spec h
              rcases hr with hr | hr
              · exact absurd (a3 r hr) hfr'
              · exact absurd (a1 r hr) hfr'
            · simp only [Nat.zero_add] at h; exact (bit2 j hsj h).elim
      have sameSlot : ∀ t, t ∈ o.looksAt ops → envS.getD t .undef = s.env.getD t .undef := by
        intro t ht
        rw [k4 t, hs.env t]
        refine fl_congr t _ 0 _ _ _ _ (fun j w' hj hw => ?_) rfl
        simp only [List.getElem?_map, Option.map_eq_some_iff] at hj
        obtain ⟨f, hf, rfl⟩ := hj
        rw [Nat.zero_add]
        by_cases hji : j = i
        · subst hji; rw [hSi]; simp
        · refine slot t (.inl ht) j f hf hji ?_
          unfold Ent.sl at hw
          split at hw
          · rename_i h; exact h.1
          · exact absurd rfl hw
      have sameRoot : ∀ r ∈ e.res.rd, G (sOf listed) r = rtOf s.rt r := by
        intro r hr
        rw [hs.rt r]
        refine fl_congr r _ 0 _ _ _ _ (fun j w' hj hw => ?_) rfl
        simp only [List.getElem?_map, Option.map_eq_some_iff] at hj
        obtain ⟨f, hf, rfl⟩ := hj
        rw [Nat.zero_add]
        by_cases hji : j = i
        · subst hji; rw [hSi]; simp
        · exact root r (.inl hr) j f hf hji hw
      -- the next state
      have hS' : ∀ k, k < ops.size → sOf (listed.setIfInBounds i true) k = addS (sOf listed) i k := by
        intro k hkl
        simp only [sOf, addS]
        by_cases hki : k = i
        · subst hki
          simp only [Array.getD_eq_getD_getElem?]
          rw [Array.getElem?_setIfInBounds_self_of_lt (by omega)]; simp
        · simp only [Array.getD_eq_getD_getElem?]
          rw [Array.getElem?_setIfInBounds_ne (Ne.symm hki)]
          simp [hki]
      have nextF : ∀ x, F (sOf (listed.setIfInBounds i true)) x = (e.sl st.env.length x).getD (F (sOf listed) x) := by
        intro x
        have e1 : F (sOf (listed.setIfInBounds i true)) x = F (addS (sOf listed) i) x := fl_congr x _ 0 _ _ _ _ (fun j w' hj _ => by
          rw [Nat.zero_add]; exact hS' j (by rw [← hN]; simpa using (List.getElem?_eq_some_iff.1 hj).1)) rfl
        rw [e1]
        refine fl_ins x _ _ _ i _ (by simp [he]) (fun j w' hj hij hSj => ?_)
        simp only [List.getElem?_map, Option.map_eq_some_iff] at hj
        obtain ⟨f, hf, rfl⟩ := hj
        by_cases h1 : e.sl st.env.length x = none
        · exact .inl h1
        · right
          cases h2 : f.sl st.env.length x with
          | none => rfl
          | some _ =>
            unfold Ent.sl at h1 h2
            split at h1
            · rename_i h3
              split at h2
              · rename_i h4
                have := slot x (.inr (by rw [← hs.dst]; exact h3.1)) j f hf (by omega) h4.1
                rw [hSj, decide_eq_false (by omega)] at this; cases this
              · cases h2
            · exact absurd rfl h1
      have nextG : ∀ r, G (sOf (listed.setIfInBounds i true)) r = (e.rw r).getD (G (sOf listed) r) := by
        intro r
        have e1 : G (sOf (listed.setIfInBounds i true)) r = G (addS (sOf listed) i) r := fl_congr r _ 0 _ _ _ _ (fun j w' hj _ => by
          rw [Nat.zero_add]; exact hS' j (by rw [← hN]; simpa using (List.getElem?_eq_some_iff.1 hj).1)) rfl
        rw [e1]
        refine fl_ins r _ _ _ i _ (by simp [he]) (fun j w' hj hij hSj => ?_)
        simp only [List.getElem?_map, Option.map_eq_some_iff] at hj
        obtain ⟨f, hf, rfl⟩ := hj
        by_cases h1 : e.rw r = none
        · exact .inl h1
        · right
          cases h2 : f.rw r with
          | none => rfl
          | some _ =>
            have := root r (.inr h1) j f hf (by omega) (by rw [h2]; simp)
            rw [hSj, decide_eq_false (by omega)] at this; cases this
      have fin : ∀ (a' : Act) (w' : World) (own' : Nat → Option Lab) (v : Value), a' = a.put o.dst v → Sim w0 (fun i => envS.getD i .undef) (fun r => (e.rw r).getD (G (sOf listed) r)) (fun i => a.tmps.getD i Go.undef) w' own' →
          Mt w' (okb w' own') own' (fun r => (e.rw r).getD (G (sOf listed) r)) e.val v →
          wpAny P .any ops (fun e a' w' => ∃ st', Fits w0 st' a' w' ∧ Q e st') fuel (listed.setIfInBounds i true) a' w' := by
        intro a' w' own' v ha' hsim hmt
        subst ha'
        have hG : G (sOf (listed.setIfInBounds i true)) = (fun r => (e.rw r).getD (G (sOf listed) r)) := funext nextG
        refine ih _ _ _ (by simpa using hsz) ?_ (fun k o' hk ho' e' he' hb => ?_) ⟨own', setSlot envS o.dst e.val, by simpa using k1, by simpa using k2, by simpa using k3, fun x => ?_, ?_⟩
        · have hc : (List.range ops.size).countP (fun k => !(listed.setIfInBounds i true).getD k true) < (List.range ops.size).countP (fun k => !listed.getD k true) := by
            refine countP_lt _ _ _ (fun k hk hq => ?_) ⟨i, List.mem_range.2 hlt, by rw [hun]; rfl, ?_⟩
            · by_cases hki : k = i
              · subst hki; rw [hun]; rfl
              · have := getD_set_ne (listed := listed) true (Ne.symm hki)
                rw [this] at hq; exact hq
            · simp only [Array.getD_eq_getD_getElem?]
              rw [Array.getElem?_setIfInBounds_self_of_lt (by omega)]; rfl
          omega
        · have hkl := (Array.getElem?_eq_some_iff.1 ho').1
          rw [hS' k hkl] at hk
          have h1 := hcl' k o' hk (by simpa using ho') e' he' hb
          have hlt' := (hsl1 k o' ho').1 e' he' hb
          rw [hS' e'.on (by omega)]; exact h1
        · rw [nextF x, ← k4 x, ← hs.dst, Ent.sl_apply e envS e.val rfl x, k3]
        · rw [hG]
          exact hsim.putSlot k2 o.dst hmt
      have hgc := guardOn_congr (ops := ops) (o := o) (env := s.env) (env' := envS) sameSlot
      unfold wpOp
      simp only [ho]
      rcases hs.step with ⟨hg, hev, hn⟩ | ⟨hg, hv, hres⟩
      · rw [← hgc] at hg
        rw [guardOn_wanted k5 hg]
        simp only [if_true]
        refine .inl ?_
        have hev' := hev envS (G (sOf listed)) (fun x hx => evO_congr (fun t ht => by
          refine sameSlot t ?_
          subst ht
          unfold Oper.looksAt
          exact List.mem_append.2 (.inl (List.mem_filterMap.2 ⟨.tmp t, by simpa using hx, rfl⟩)))) sameRoot
        refine evK_sound hT k5 (fun res hres r h1 h2 => ?_) (fun res v w' own' hres hsim hmt => ?_) hev'
        · subst hres
          have hrn : e.rw r ≠ none := by unfold Ent.rw; rw [if_pos ⟨h1, h2⟩]; simp
          have hnone : rtOf st.rt r = none := rtOf_none (by have := hs.low; omega)
          show fl (es.map Ent.rw) 0 (sOf listed) (rtOf st.rt) r = none
          rw [← hnone]
          refine fl_false r _ _ _ (fun j w' hj hw => ?_)
          simp only [List.getElem?_map, Option.map_eq_some_iff] at hj
          obtain ⟨f, hf, rfl⟩ := hj
          by_cases hji : j = i
          · subst hji; exact hSi
          · have := root r (.inr hrn) j f hf hji hw
            rw [this]
            by_cases hlt' : j < i
            · have := hs.ahead j f hlt' hf r (Ent.rw_mem hw); omega
            · exact decide_eq_false hlt'
        · subst hres
          have happ : applyRes (G (sOf listed)) e.n e.res = (fun r => (e.rw r).getD (G (sOf listed) r)) := funext (Ent.rw_apply e _)
          rw [happ] at hsim hmt
          exact fin _ w' own' v rfl hsim (hn v w' _ _ _ hmt)
      · rw [← hgc] at hg
        rw [guardOn_wanted k5 hg]
        simp only [Bool.false_eq_true, if_false]
        have hnone : (fun r => (e.rw r).getD (G (sOf listed) r)) = G (sOf listed) := by
          funext r
          have : e.rw r = none := by unfold Ent.rw; rw [hres]; rw [if_neg (by simp), if_neg (by simp)]
          rw [this]; rfl
        refine fin _ w own Go.undef rfl (by rw [hnone]; exact k5) (by rw [hv]; exact .sh _ _ (.lit _))
  refine wp_region_any hm (key ops.size (Array.replicate ops.size false) a _ (by simp) ?_ (fun k o hk => ?_) ?_)
  · exact Nat.le_trans List.countP_le_length (by simp)
  · exfalso
    simp only [sOf, Array.getD_eq_getD_getElem?, Array.getElem?_replicate] at hk
    split at hk <;> simp at hk
  · have hfalse : ∀ k, sOf (Array.replicate ops.size false) k = false := fun k => by
      simp only [sOf, Array.getD_eq_getD_getElem?, Array.getElem?_replicate]
      split <;> rfl
    have e2 : G (sOf (Array.replicate ops.size false)) = rtOf st.rt := by
      funext r; exact fl_false r (es.map Ent.rw) (sOf (Array.replicate ops.size false)) (rtOf st.rt) (fun j w _ _ => hfalse j)
    refine ⟨own, st.env, hd, hl, rfl, fun x => (fl_false x (es.map (Ent.sl st.env.length)) (sOf (Array.replicate ops.size false)) (fun x => st.env.getD x .undef) (fun j w _ _ => hfalse j)).symm, ?_⟩
    rw [e2]
    exact hs.more ((Below.refl _ _).drew)

end
end Go.Vm
