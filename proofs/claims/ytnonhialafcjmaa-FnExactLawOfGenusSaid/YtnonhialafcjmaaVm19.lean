/- Regions in the order of the text; calls that are walked into. -/
import Derived.Test.YtnonhialafcjmaaVm18
set_option linter.unusedVariables false
set_option linter.unusedSimpArgs false
set_option linter.unusedSectionVars false
namespace Go.Vm
open Go Go.RowKit

section
variable {P : Program} {T : Tab} {w0 : Base} {w : World} {a : Act} {Q : Exit → Act → World → Prop}

theorem Fits.put {st : St} {own : Nat → Option Lab} {l : List (Option Root)} (hd : a.defers = []) (hl : st.env.length = a.tmps.size)
    (hs : Sim w0 (fun i => st.env.getD i .undef) (rtOf l) (fun i => a.tmps.getD i Go.undef) w own) (dst : Option Tmp) {d : D} {v : Value} (hm : Mt w (okb w own) own (rtOf l) d v) :
    Fits w0 ⟨setSlot st.env dst d, l⟩ (a.put dst v) w :=
  ⟨own, by simpa using hd, by simpa using hl, hs.putSlot hl dst hm⟩

theorem runK_sound (hT : TabOk P T) {st : St} (hf : Fits w0 st a w) {o : Oper} {K : D → Res → Prop} {Kc : Act → World → Prop} (h : runK P T o st K)
    (hk : ∀ d res a' w', K d res → Fits w0 (nextSt st o.dst d res) a' w' → Kc a' w') : o.wp P a w Kc Q := by
  obtain ⟨own, hd, hl, hs⟩ := hf
  unfold runK at h
  rw [forceN_eq] at h
  refine evK_sound hT hs (fun res _ r h1 _ => rtOf_none h1) (fun res v w' own' hres hsim hm => ?_) h
  have h1 := chk_and hres
  rw [applyRes_rtOf h1.1] at hsim hm
  obtain ⟨d', hk', hm'⟩ := normB_mt h1.2 hm
  exact hk d' res _ w' hk' (Fits.put hd hl hsim o.dst hm')

theorem inlK_sound (hT : TabOk P T) {st : St} (hf : Fits w0 st a w) {o : Oper} {f : Operand} {args : Array Operand} {ts : Array TypeId} (ho : o.op = .call { callee := .value f, args := args, argTypes := ts })
    {K : D → List (Option Root) → Prop} {Kc : Act → World → Prop} (h : inlK P T (evO st.env f) (args.toList.map (evO st.env)) st K)
    (hk : ∀ d rt a' w', K d rt → Fits w0 ⟨setSlot st.env o.dst d, rt⟩ a' w' → Kc a' w') : o.wp P a w Kc Q := by
  obtain ⟨own, hd, hl, hs⟩ := hf
  have hfv := evO_mt hs f
  unfold inlK at h
  split at h
  · rename_i g fs cs hfe
    rw [hfe] at hfv
    obtain ⟨first, caps, hv, hl1, hl2, hr1, hr2⟩ := hfv.fn_inv
    obtain ⟨fn, c, hfn, hbody, hname, hsvc⟩ := h
    let vals : Array Value := first ++ args.map a.eval ++ caps
    have hvl : vals.toList = first.toList ++ (args.toList.map a.eval ++ caps.toList) := by simp [vals]
    have hmt : ∀ (i : Nat) d v, (fs ++ args.toList.map (evO st.env) ++ cs)[i]? = some d → vals.toList[i]? = some v → Mt w (okb w own) own (rtOf st.rt) d v := by
      intro i d v h1 h2
      rw [hvl] at h2
      rw [List.append_assoc] at h1
      by_cases hi : i < fs.length
      · rw [List.getElem?_append_left hi] at h1
        rw [List.getElem?_append_left (by simpa [hl1] using hi)] at h2
        exact hr1 i d v h1 (by simpa using h2)
      · rw [List.getElem?_append_right (by omega)] at h1
        rw [List.getElem?_append_right (by simp [hl1]; omega)] at h2
        simp only [Array.length_toList, hl1] at h2
        by_cases hi2 : i - fs.length < args.toList.length
        · rw [List.getElem?_append_left (by simpa using hi2)] at h1 h2
          simp only [List.getElem?_map, Option.map_eq_some_iff] at h1 h2
          obtain ⟨x, hx, rfl⟩ := h1
          obtain ⟨y, hy, rfl⟩ := h2
          rw [hx] at hy; cases hy
          exact evO_mt hs x
        · rw [List.getElem?_append_right (by simpa using hi2)] at h1 h2
          simp only [List.length_map] at h1 h2
          exact hr2 _ d v h1 (by simpa using h2)
    have hsz : vals.size = (fs ++ args.toList.map (evO st.env) ++ cs).length := by simp [vals, hl1, hl2]
    have hrun : (execOp a.eval o).run P w = .ok (.enter g vals) w := by
      have h2' : fn.name ≠ "runtime.NumGoroutine" := by simpa using hname
      have h3' : fn.body ≠ none := fun e => by rw [e] at hbody; cases hbody
      simp [execOp, ho, resolve, hv, Deferred.ofValue, invoke, vals, callFunc, program, Sem.run, hfn, h2', h3']
    unfold Oper.wp
    rw [hrun, Oper.upon_enter]
    refine calls_of_wp (fn := fn) (c := c) hfn hbody ?_
    let pairs : List (D × Value) := (List.range st.env.length).map fun i => (st.env.getD i .undef, a.tmps.getD i Go.undef)
    have hrtl : ∀ r, rtOf st.rt r ≠ none → r < st.rt.length := fun r h => by
      rcases Nat.lt_or_ge r st.rt.length with h' | h'
      · exact h'
      · exact absurd (rtOf_none h') h
    have hbel : ∀ p ∈ w0.susp ++ pairs, BelowD st.rt.length p.1 := fun p hp => by
      rcases List.mem_append.1 hp with h | h
      · exact (hs.susp p h).belowD hrtl
      · simp only [pairs, List.mem_map, List.mem_range] at h
        obtain ⟨i, _, rfl⟩ := h
        exact Mt.belowD (hs.env i) hrtl
    let w1 : Base := { toWorld := w0.toWorld, susp := w0.susp ++ pairs, keep := st.rt.length, hk := hbel }
    let a1 : Act := { tmps := vals ++ Array.replicate (fn.ntmps - vals.size) Go.undef, defers := [] }
    have hfit : Fits w1 ⟨(fs ++ args.toList.map (evO st.env) ++ cs) ++ List.replicate (fn.ntmps - (fs ++ args.toList.map (evO st.env) ++ cs).length) .undef, st.rt⟩ a1 w := by
      refine ⟨own, rfl, by (show (fs ++ args.toList.map (evO st.env) ++ cs ++ List.replicate (fn.ntmps - (fs ++ args.toList.map (evO st.env) ++ cs).length) D.undef).length = a1.tmps.size); rw [List.length_append, List.length_replicate, ← hsz]; simp [a1], ⟨hs.below, fun i => ?_, hs.roots, hs.lab, hs.inj, fun p hp => ?_⟩⟩
      · show Mt w (okb w own) own (rtOf st.rt) ((fs ++ args.toList.map (evO st.env) ++ cs ++ List.replicate (fn.ntmps - (fs ++ args.toList.map (evO st.env) ++ cs).length) D.undef).getD i D.undef) (a1.tmps.getD i Go.undef)
        rw [List.getD_eq_getElem?_getD]
        by_cases hi : i < (fs ++ args.toList.map (evO st.env) ++ cs).length
        · rw [List.getElem?_append_left hi, List.getElem?_eq_getElem hi, Option.getD_some]
          have hi2 : i < vals.size := by rw [hsz]; exact hi
          have e1 : a1.tmps.getD i Go.undef = vals[i] := by
            simp only [a1, Array.getD_eq_getD_getElem?]
            rw [Array.getElem?_append_left hi2, Array.getElem?_eq_getElem hi2]; rfl
          rw [e1]
          exact hmt i _ _ (List.getElem?_eq_getElem hi) (by rw [Array.getElem?_toList]; exact Array.getElem?_eq_getElem hi2)
        · rw [List.getElem?_append_right (by omega), List.getElem?_replicate]
          split <;> exact .undef _
      · rcases List.mem_append.1 hp with h | h
        · exact hs.susp p h
        · simp only [pairs, List.mem_map, List.mem_range] at h
          obtain ⟨i, _, rfl⟩ := h
          exact hs.env i
    refine wp_mono (hsvc w1 a1 w rfl hfit) (fun e a' w' hpost => ?_)
    obtain ⟨st', ⟨own', hd', hl', hs'⟩, he, hres⟩ := hpost
    obtain ⟨d, v, hkd, hmd, hrv⟩ := results_sound hT hs' fn hres
    have hback : Fits w0 ⟨setSlot st.env o.dst d, st'.rt⟩ (a.put o.dst v) w' := by
      have hs2 : Sim w0 (fun i => st.env.getD i .undef) (rtOf st'.rt) (fun i => a.tmps.getD i Go.undef) w' own' := by
        refine ⟨hs'.below, fun i => ?_, hs'.roots, hs'.lab, hs'.inj, fun p hp => hs'.susp p (List.mem_append.2 (.inl hp))⟩
        by_cases hi : i < st.env.length
        · exact hs'.susp (st.env.getD i .undef, a.tmps.getD i Go.undef) (List.mem_append.2 (.inr (List.mem_map.2 ⟨i, List.mem_range.2 hi, rfl⟩)))
        · have e1 : st.env.getD i .undef = .undef := by rw [List.getD_eq_getElem?_getD, List.getElem?_eq_none (by omega)]; rfl
          show Mt w' (okb w' own') own' (rtOf st'.rt) (st.env.getD i .undef) (a.tmps.getD i Go.undef)
          rw [e1]; exact .undef _
      exact Fits.put hd hl hs2 o.dst hmd
    have hfin := hk d st'.rt _ w' hkd hback
    rcases he with rfl | rfl
    · exact ⟨hd', v, hrv, hfin⟩
    · exact ⟨hd', v, hrv, hfin⟩
  · exact h.elim

theorem seqK_sound (hT : TabOk P T) (ops : Array Oper) {K : St → Prop} (hK : ∀ st' a' w', Fits w0 st' a' w' → K st' → Q .normal a' w') : ∀ (rest : List Oper) (i : Nat), ops.toList.drop i = rest →
    ∀ (st : St) (a : Act) (w : World), Fits w0 st a w → seqK P T ops.toList rest st K → wpOps P ops Q (List.range' i rest.length) a w := by
  intro rest
  induction rest with
  | nil => intro i _ st a w hf h; exact hK st a w hf h
  | cons o rest ih =>
    intro i hi st a w hf h
    have ho : ops[i]? = some o := by
      have : (ops.toList.drop i)[0]? = some o := by rw [hi]; rfl
      rw [List.getElem?_drop] at this
      simpa using this
    have hnext : ops.toList.drop (i + 1) = rest := by
      rw [← List.drop_drop, hi]; rfl
    obtain ⟨own, hd, hl, hs⟩ := hf
    have hf : Fits w0 st a w := ⟨own, hd, hl, hs⟩
    simp only [seqK, forceS_eq] at h
    rw [List.length_cons, List.range'_succ]
    simp only [wpOps, ho]
    split at h
    · rename_i hg
      rw [guardOn_wanted hs hg]
      simp only [if_true]
      refine .inl ?_
      unfold orInl at h
      split at h
      · rename_i f args ts hop
        rcases h with h | h
        · exact runK_sound hT hf h (fun d res a' w' hk hf' => ih (i + 1) hnext _ _ _ hf' hk)
        · exact inlK_sound hT hf hop h (fun d rt a' w' hk hf' => ih (i + 1) hnext _ _ _ hf' hk)
      · exact runK_sound hT hf h (fun d res a' w' hk hf' => ih (i + 1) hnext _ _ _ hf' hk)
    · rename_i hg
      rw [guardOn_wanted hs hg]
      simp only [Bool.false_eq_true, if_false]
      exact ih (i + 1) hnext _ _ _ (Fits.put hd hl hs o.dst (.sh _ _ (.lit _))) h
    · exact h.elim

theorem seq_region (hT : TabOk P T) {kp id : Nat} {ops : Array Oper} {K : St → Prop} {st : St} {Q : Exit → St → Prop} (h : seqK P T ops.toList ops.toList st K) (hK : ∀ st', K st' → Q .normal st') :
    SVC P kp (.region id ops false) Q st := by
  intro w0 a w _ hf
  refine wp_region ?_
  have := seqK_sound (Q := fun e a' w' => ∃ st', Fits w0 st' a' w' ∧ Q e st') hT ops (K := K) (fun st' a' w' hf hk => ⟨st', hf, hK st' hk⟩) ops.toList 0 rfl st a w hf h
  rw [List.range_eq_range']
  simpa using this

end
end Go.Vm
