/- The evaluator is sound: calls by contract; all operations together. -/
import Derived.Test.YtnonhialafcjmaaVm15
set_option linter.unusedVariables false
set_option linter.unusedSimpArgs false
set_option linter.unusedSectionVars false
namespace Go.Vm
open Go Go.RowKit

section
variable {P : Program} {T : Tab} {w0 : Base} {w : World} {env : List D} {rt : RT} {own : Nat → Option Lab} {a : Act} {n : Nat} {o : Oper} {K : Res → Prop} {Kc : Act → World → Prop} {Q : Exit → Act → World → Prop}

/-- The result of a call is taken in. -/
theorem ResOk.take {tm : Nat → Value} {envf : Nat → D} (hs : Sim w0 envf rt tm w own) {w' : World} {rs : D} {v : Value} (hb : Below w.heap.size w w') (hr : ResOk w w' n rs v)
    (hn : ∀ r, n ≤ r → r < n + (openD n rs).2.length → rt r = none) :
    ∃ own', Sim w0 envf (newRT rt n (openD n rs).2) tm w' own' ∧ Mt w' (okb w' own') own' (newRT rt n (openD n rs).2) (openD n rs).1 v := by
  obtain ⟨ownr, h1, h2, h3, h4⟩ := hr
  have hlist : ∀ r x, listRT n (openD n rs).2 r = some x → n ≤ r ∧ r < n + (openD n rs).2.length := fun r x h => by
    unfold listRT at h
    split at h
    · rename_i hle
      have := (List.getElem?_eq_some_iff.1 h).1
      exact ⟨hle, by omega⟩
    · cases h
  have hnew : ∀ r, n ≤ r → r < n + (openD n rs).2.length → newRT rt n (openD n rs).2 r = listRT n (openD n rs).2 r := fun r k1 k2 => by
    simp only [newRT, listRT]; rw [if_pos ⟨k1, k2⟩, if_pos k1]
  have hold : ∀ r, rt r ≠ none → newRT rt n (openD n rs).2 r = rt r := fun r h => by
    unfold newRT; rw [if_neg]; rintro ⟨k1, k2⟩; exact h (hn r k1 k2)
  let own' : Nat → Option Lab := fun b => if b < w.heap.size then own b else ownr b
  have hlive : ∀ r R, listRT n (openD n rs).2 r = some (some R) → newRT rt n (openD n rs).2 r = some (some R) := fun r R h => by
    obtain ⟨k1, k2⟩ := hlist r _ h; rw [hnew r k1 k2]; exact h
  have hown : ∀ b r p, listRT n (openD n rs).2 r ≠ none → (ownr b = some (r, p) ↔ own' b = some (r, p)) := fun b r p hr => by
    obtain ⟨x, hx⟩ := Option.ne_none_iff_exists'.1 hr
    obtain ⟨k1, k2⟩ := hlist r x hx
    constructor
    · intro h
      have := (h1 b r p h).1
      simp only [own']; rw [if_neg (by omega)]; exact h
    · intro h
      simp only [own'] at h
      split at h
      · obtain ⟨_, _, R, hR⟩ := hs.lab b r p h
        rw [hn r k1 k2] at hR; cases hR
      · exact h
  have hokn : ∀ b, okn w w' ownr b → okb w' own' b ∧ w'.heap[b]? = w'.heap[b]? := fun b hb => by
    refine ⟨⟨?_, hb.2.2⟩, rfl⟩
    simp only [own']; rw [if_neg (by have := hb.2.1; omega)]; exact hb.1
  have hsim : Sim w0 envf (newRT rt n (openD n rs).2) tm w' own' := by
    refine hs.grow hb (fun b hlt => by simp only [own']; rw [if_pos hlt]) (fun b r p k1 k2 => ?_) hold (fun r R k1 k2 => ?_) (fun b b' l k1 k2 k3 k4 => ?_)
    · simp only [own'] at k2; rw [if_neg (by omega)] at k2
      obtain ⟨_, m2, R, m3⟩ := h1 b r p k2
      obtain ⟨e1, e2⟩ := hlist r _ m3
      exact ⟨hn r e1 e2, m2, R, hlive r R m3⟩
    · have hin : n ≤ r ∧ r < n + (openD n rs).2.length := by
        unfold newRT at k2
        split at k2
        · rename_i h; exact h
        · rw [k1] at k2; cases k2
      rw [hnew r hin.1 hin.2] at k2
      obtain ⟨hbox, hroot⟩ := h3 r R k2
      have hne : listRT n (openD n rs).2 r ≠ none := by rw [k2]; simp
      rcases hroot with ⟨b, arr, e, m1, m2, m3, m4⟩ | ⟨m1, m2, m3⟩
      · refine .inl ⟨b, arr, e, (hown b r [] hne).1 m1, m2, m3, fun i d v hd hv => ?_⟩
        have := m4 i d v hd hv
        unfold CellOk at this ⊢
        rw [hbox] at this ⊢
        simp only [Bool.false_eq_true, if_false] at this ⊢
        exact this.frame hokn (fun b q hq => ⟨(hown b r _ hne).1 hq, rfl⟩) (fun b q hq => (hown b r _ hne).2 hq)
      · exact .inr ⟨m1, m2, fun b hb' => m3 b ((hown b r [] hne).2 hb')⟩
    · simp only [own'] at k3 k4; rw [if_neg (by omega)] at k3 k4
      exact h2 b b' l k3 k4
  refine ⟨own', hsim, h4.frame ⟨hokn, fun r h => ?_, fun r R' k1 k2 => ?_, fun r R R' k1 k2 b p _ => hown b r p (by rw [k1]; simp), fun r R R' p k1 k2 hp => by
    obtain ⟨e1, e2⟩ := hlist r _ k1
    rw [hnew r e1 e2, k1] at k2; cases k2; exact hp, fun r R' b p arr e k1 k2 k3 k4 => ⟨arr, k4, rfl⟩⟩⟩
  · obtain ⟨x, hx⟩ := Option.ne_none_iff_exists'.1 h
    obtain ⟨k1, k2⟩ := hlist r x hx
    rw [hnew r k1 k2]; exact h
  · obtain ⟨x, hx⟩ := Option.ne_none_iff_exists'.1 k1
    obtain ⟨e1, e2⟩ := hlist r x hx
    rw [hnew r e1 e2] at k2; exact ⟨R', k2⟩

theorem RunsTo.wp {g : FuncId} {vals : Array Value} {R : Value → World → Prop} (h : RunsTo P g vals w R) (he : execOp a.eval o = callFunc g vals) (hk : ∀ v w', R v w' → Kc (a.put o.dst v) w') : o.wp P a w Kc Q := by
  unfold Oper.wp
  rw [he]
  rcases h with ⟨fn, h1, h2, h3, h4⟩ | ⟨v, w', h1, h2⟩
  · have hr : (callFunc g vals).run P w = .ok (.enter g vals) w := by
      have h2' : fn.name ≠ "runtime.NumGoroutine" := by simpa using h2
      have h3' : fn.body ≠ none := fun e => by rw [e] at h3; simp at h3
      simp [callFunc, program, Sem.run_bind, Sem.run, h1, h2', h3']
    rw [hr, Oper.upon_enter]
    exact h4.mono (fun e w' ⟨v, he, hR⟩ => by subst he; exact hk v w' hR)
  · rw [h1]; exact hk v w' h2

theorem call_sound (hs : Sim w0 (fun i => env.getD i .undef) rt (fun i => a.tmps.getD i Go.undef) w own) (hn : ∀ res, K res → ∀ r, n ≤ r → r < n + res.new.length → rt r = none) (hg : Goal w0 env rt n a o.dst K Kc)
    (f : Operand) (args : Array Operand) (ts : Array TypeId) (ho : o.op = .call { callee := .value f, args := args, argTypes := ts }) (h : pureCallK P rt n (evO env f) (args.toList.map (evO env)) K) : o.wp P a w Kc Q := by
  have hf := evO_mt hs f
  unfold pureCallK at h
  split at h
  · rename_i g fs cs hfe
    rw [hfe] at hf
    obtain ⟨first, caps, hv, hl1, hl2, hr1, hr2⟩ := hf.fn_inv
    let vals : Array Value := first ++ args.map a.eval ++ caps
    have hvl : vals.toList = first.toList ++ (args.toList.map a.eval ++ caps.toList) := by simp [vals]
    have hmt : ∀ (i : Nat) d v, (fs ++ args.toList.map (evO env) ++ cs)[i]? = some d → vals.toList[i]? = some v → Mt w (okb w own) own rt d v := by
      intro i d v h1 h2
      rw [hvl] at h2
      rw [List.append_assoc] at h1
      by_cases hi : i < fs.length
      · rw [List.getElem?_append_left hi] at h1
        rw [List.getElem?_append_left (by simpa [hl1] using hi)] at h2
        exact hr1 i d v h1 (by simpa using h2)
      · rw [List.getElem?_append_right (by omega)] at h1
        rw [List.getElem?_append_right (by simp [hl1]; omega)] at h2
        simp only [Array.length_toList, hl1] at h2
        by_cases hi2 : i - fs.length < args.toList.length
        · rw [List.getElem?_append_left (by simpa using hi2)] at h1 h2
          simp only [List.getElem?_map, Option.map_eq_some_iff] at h1 h2
          obtain ⟨x, hx, rfl⟩ := h1
          obtain ⟨y, hy, rfl⟩ := h2
          rw [hx] at hy; cases hy
          exact evO_mt hs x
        · rw [List.getElem?_append_right (by simpa using hi2)] at h1 h2
          simp only [List.length_map] at h1 h2
          exact hr2 _ d v h1 (by simpa using h2)
    obtain ⟨ds, rd, ⟨rs, hpc, hk⟩, hdl, hds⟩ := mapK_sound (S := fun d v => Sh w (fun b => b < w.heap.size) d v) _ vals.toList (by rw [hvl]; simp [hl1, hl2]) (fun i d v h1 h2 K h => res_sound hs 6 d v K (hmt i d v h1 h2) h) _ h
    have hrun := hpc w vals n (by rw [hdl]; simp [vals, hl1, hl2]) (fun i d v h1 h2 => hds i d v h1 (by simpa using h2))
    refine hrun.wp ?_ (fun v w' hv' => ?_)
    · simp [execOp, ho, resolve, hv, Deferred.ofValue, invoke, vals]
    · obtain ⟨hb, hres⟩ := hv'
      obtain ⟨own', hsim, hm⟩ := hres.take hs hb (hn _ hk)
      exact hg _ v w' own' hk hsim hm
  · exact h.elim

theorem aggCall_sound (hs : Sim w0 (fun i => env.getD i .undef) rt (fun i => a.tmps.getD i Go.undef) w own) (hn : ∀ res, K res → ∀ r, n ≤ r → r < n + res.new.length → rt r = none) (hg : Goal w0 env rt n a o.dst K Kc)
    (f : Operand) (args : Array Operand) (ts : Array TypeId) (ho : o.op = .call { callee := .value f, args := args, argTypes := ts }) (h : aggCallK P rt (evO env f) (args.toList.map (evO env)) K) : o.wp P a w Kc Q := by
  have hf := evO_mt hs f
  unfold aggCallK at h
  split at h
  · rename_i g hfe
    rw [hfe] at hf
    obtain ⟨first, caps, hv, hl1, hl2, _, _⟩ := hf.fn_inv
    have h1 : first = #[] := Array.eq_empty_of_size_eq_zero (by simpa using hl1)
    have h2 : caps = #[] := Array.eq_empty_of_size_eq_zero (by simpa using hl2)
    subst h1; subst h2
    split at h
    · rename_i m r p sz off k hargs
      obtain ⟨l⟩ := args
      obtain ⟨x, y, rfl, hx, hy⟩ : ∃ x y, l = [x, y] ∧ evO env x = .lit (.int .i64 m) ∧ evO env y = .ref r p sz off k := by
        have hlen : l.length = 2 := by have := congrArg List.length hargs; simpa using this
        match l, hlen with
        | [x, y], _ => simp only [List.map_cons, List.map_nil, List.cons.injEq, and_true] at hargs; exact ⟨x, y, rfl, hargs.1, hargs.2⟩
      split at h
      · rename_i R hR
        obtain ⟨hmk, hk⟩ := h
        have hxm := evO_mt hs x
        rw [hx] at hxm
        have hym := evO_mt hs y
        rw [hy] at hym
        have hxv := hxm.lit_inv
        obtain ⟨b, k', c, hyv⟩ : ∃ b k' c, a.eval y = .slice b k' c := by
          rcases hym.ref_inv.2 R hR with ⟨b, arr, e, cap, o, _, _, hv, _⟩ | ⟨hv, _⟩
          · exact ⟨_, _, _, hv⟩
          · exact ⟨_, _, _, hv⟩
        have hrun := hmk m b k' c w #[a.eval x, a.eval y] n rfl (fun i d v h1 h2 => by
          match i, h1, h2 with
          | 0, h1, h2 => simp at h1 h2; subst h1; subst h2; rw [hxv]; exact .lit _
          | 1, h1, h2 => simp at h1 h2; subst h1; subst h2; rw [hyv]; exact .lit _
          | i + 2, h1, h2 => simp at h1)
        refine hrun.wp ?_ (fun v w' hv' => ?_)
        · simp [execOp, ho, resolve, hv, Deferred.ofValue, invoke]
        · obtain ⟨hb, hres⟩ := hv'
          obtain ⟨own', hsim, hm⟩ := hres.take hs hb (hn _ hk)
          refine hg _ v w' own' hk hsim ?_
          obtain ⟨vs, rfl, hl, hr⟩ := (show Mt w' (okb w' own') own' _ (.agg [.lit (.int .i64 m), .lit (.slice b k' c)]) v from hm).agg_inv
          have hy' := evO_mt hsim y
          rw [hy] at hy'
          refine .agg _ _ (by simpa using hl) (fun i d u h1 h2 => ?_)
          match i, h1, h2 with
          | 0, h1, h2 =>
            simp at h1; subst h1
            exact hr 0 _ u rfl h2
          | 1, h1, h2 =>
            simp at h1; subst h1
            have := (hr 1 _ u rfl h2).lit_inv
            rw [this, ← hyv]; exact hy'
          | i + 2, h1, h2 => simp at h1
      · exact h.elim
    · exact h.elim
  · exact h.elim

/-- ALL OPERATIONS. -/
theorem evK_sound (hT : TabOk P T) (hs : Sim w0 (fun i => env.getD i .undef) rt (fun i => a.tmps.getD i Go.undef) w own) (hn : ∀ res, K res → ∀ r, n ≤ r → r < n + res.new.length → rt r = none) (hg : Goal w0 env rt n a o.dst K Kc)
    (h : evK P T env rt n o.op K) : o.wp P a w Kc Q := by
  have one : ∀ d x wr rd, K { val := d, new := [x], wr := wr, rd := rd } → rt n = none := fun d x wr rd hk => hn _ hk n (Nat.le_refl _) (by simp)
  cases hop : o.op <;> rw [hop] at h
  case move x => exact move_sound hs hg x (.inl hop) h
  case assign x => exact move_sound hs hg x (.inr hop) h
  case pick c x y => exact pick_sound (P := P) (T := T) hs hg c x y hop h
  case alloc e => exact alloc_sound hT hs (by simp only [evK] at h; exact one _ _ _ _ (chk_and h).2) hg e hop h
  case box e x =>
    refine box_sound (T := T) hs ?_ hg e x hop h
    simp only [evK] at h
    split at h
    · exact one _ _ _ _ h
    · exact h.elim
  case build t parts => exact build_sound hT hs hg t parts hop h
  case buildSlice t len parts =>
    refine buildSlice_sound hT hs ?_ hg t len parts hop h
    simp only [evK, buildSliceK] at h
    have h := (chk_and h).2
    split at h
    · have h := (chk_and h).2
      split at h
      · have h := (chk_and h).2
        split at h
        · exact one _ _ _ _ (chk_and h).2.2
        · exact h.elim
      · split at h
        · have h := (chk_and h).2
          rw [forceSz_eq, forceL_eq] at h
          exact one _ _ _ _ h
        · exact h.elim
    · exact h.elim
  case load t x => exact load_sound hT hs hg t x hop h
  case store t x y => exact store_sound hT hs hg t x y hop h
  case nilCheck x => exact nilCheck_sound hs hg x hop h
  case binOp op t x y t' => exact bin_sound hT hs hg op t t' x y hop h
  case unOp op t x => exact un_sound hs hg op t x hop h
  case convert s d x => exact convert_sound hT hs hg s d x hop h
  case makeFunc fn first captured => exact makeFunc_sound hs hg fn first captured hop h
  case makeSlice t l c =>
    refine make_sound hT hs ?_ hg t l c hop h
    simp only [evK, makeK] at h
    have h := (chk_and h).2
    split at h
    · obtain ⟨_, k0, _, h⟩ := (chk_and h).2
      rw [forceSz_eq] at h
      obtain ⟨cs0, _, h⟩ := h
      exact one _ _ _ _ h
    · exact h.elim
  case slice t x lo hi mx => exact slice_sound hT hs hg t x lo hi mx hop h
  case fieldAddr s x f => exact fieldAddr_sound hT hs hg s x f hop h
  case field s x f => exact field_sound hT hs hg s x f hop h
  case indexAddr t x i => exact indexAddr_sound hT hs hg t x i hop h
  case extract x i => exact extract_sound hs hg x i hop h
  case call c =>
    obtain ⟨callee, args, ts⟩ := c
    simp only [evK] at h
    cases callee with
    | value f =>
      rcases h with h | h
      · exact call_sound hs hn hg f args ts hop h
      · exact aggCall_sound hs hn hg f args ts hop h
    | invoke r m => exact h.elim
    | builtin b =>
      obtain ⟨args⟩ := args
      obtain ⟨ts⟩ := ts
      cases b <;> simp only at h
      case len =>
        split at h
        · rename_i x t ; exact len_sound hT hs hg t x hop h
        · exact h.elim
      case append =>
        split at h
        · rename_i s x t t' ; exact append_sound hT hs hn hg t t' s x hop h
        · exact h.elim
      case copy =>
        split at h
        · rename_i s x t t' ; exact copy_sound hT hs hg t t' s x hop h
        · exact h.elim
      case max => exact max_sound hs hg true ⟨args⟩ ⟨ts⟩ hop h
      case min => exact max_sound hs hg false ⟨args⟩ ⟨ts⟩ hop h
      all_goals exact h.elim
  all_goals exact h.elim

end
end Go.Vm
