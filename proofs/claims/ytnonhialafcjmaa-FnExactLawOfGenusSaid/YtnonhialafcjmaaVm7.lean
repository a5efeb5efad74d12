/- The evaluator is sound: operations that only compute. -/
import Derived.Test.YtnonhialafcjmaaVm6
set_option linter.unusedVariables false
set_option linter.unusedSimpArgs false
set_option linter.unusedSectionVars false
namespace Go.Vm
open Go Go.RowKit

section inv
variable {w : World} {ok : Nat → Prop} {own : Nat → Option Lab} {rt : RT} {v : Value}
theorem Mt.lit_inv {v0 : Value} (h : Mt w ok own rt (.lit v0) v) : v = v0 := by
  cases h with
  | sh _ _ h => cases h; rfl
theorem Mt.kb_inv {b : Bool} (h : Mt w ok own rt (.kb b) v) : v = .bool b := by
  cases h with
  | sh _ _ h => cases h; rfl
theorem Mt.ref_inv {r sz off n : Nat} {p : List Nat} (h : Mt w ok own rt (.ref r p sz off n) v) : rt r ≠ none ∧ ∀ R, rt r = some (some R) → RefOk w own r p sz off n v := by
  cases h with
  | sh _ _ h => cases h
  | ref _ _ _ _ _ _ h0 _ h => exact ⟨h0, fun R hR => (h R hR).2⟩
theorem Mt.ref_path {r sz off n : Nat} {p : List Nat} (h : Mt w ok own rt (.ref r p sz off n) v) : ∀ R, rt r = some (some R) → Vp R p := by
  cases h with
  | sh _ _ h => cases h
  | ref _ _ _ _ _ _ h0 _ h => exact fun R hR => (h R hR).1
theorem Mt.ptr_path {r off : Nat} {p : List Nat} (h : Mt w ok own rt (.ptr r p off) v) : ∀ R, rt r = some (some R) → Vp R p := by
  cases h with
  | sh _ _ h => cases h
  | ptr _ _ _ _ h0 _ h => exact fun R hR => (h R hR).1
theorem Mt.ptr_inv {r off : Nat} {p : List Nat} (h : Mt w ok own rt (.ptr r p off) v) : rt r ≠ none ∧ ∀ R, rt r = some (some R) → PtrOk w own r p off v := by
  cases h with
  | sh _ _ h => cases h
  | ptr _ _ _ _ h0 _ h => exact ⟨h0, fun R hR => (h R hR).2⟩
theorem Mt.list_inv {o : Bool} {sz : Nat} {cs : List D} (h : Mt w ok own rt (.list o sz cs) v) : Sh w ok (.list o sz cs) v := by
  cases h with
  | sh _ _ h => exact h
theorem Mt.cptr_inv {cs : List D} {off : Nat} (h : Mt w ok own rt (.cptr cs off) v) : Sh w ok (.cptr cs off) v := by
  cases h with
  | sh _ _ h => exact h
theorem Mt.agg_inv {ds : List D} (h : Mt w ok own rt (.agg ds) v) : ∃ vs, v = .agg vs ∧ vs.size = ds.length ∧ ∀ (i : Nat) d u, ds[i]? = some d → vs[i]? = some u → Mt w ok own rt d u := by
  cases h with
  | sh _ _ h => cases h with
    | agg _ vs hl hr => exact ⟨vs, rfl, hl, fun i d u h1 h2 => .sh d u (hr i d u h1 h2)⟩
  | agg _ vs hl hr => exact ⟨vs, rfl, hl, hr⟩
theorem Mt.tup_inv {ds : List D} (h : Mt w ok own rt (.tup ds) v) : ∃ vs, v = .tuple vs ∧ vs.size = ds.length ∧ ∀ (i : Nat) d u, ds[i]? = some d → vs[i]? = some u → Mt w ok own rt d u := by
  cases h with
  | sh _ _ h => cases h with
    | tup _ vs hl hr => exact ⟨vs, rfl, hl, fun i d u h1 h2 => .sh d u (hr i d u h1 h2)⟩
  | tup _ vs hl hr => exact ⟨vs, rfl, hl, hr⟩
theorem Mt.fn_inv {f : Fn} {fs cs : List D} (h : Mt w ok own rt (.fn f fs cs) v) : ∃ first caps, v = .func f first caps ∧ first.size = fs.length ∧ caps.size = cs.length ∧
    (∀ (i : Nat) d u, fs[i]? = some d → first[i]? = some u → Mt w ok own rt d u) ∧ (∀ (i : Nat) d u, cs[i]? = some d → caps[i]? = some u → Mt w ok own rt d u) := by
  cases h with
  | sh _ _ h => cases h with
    | fn _ _ _ first caps h1 h2 hf hr => exact ⟨first, caps, rfl, h1, h2, fun i d u k1 k2 => .sh d u (hf i d u k1 k2), fun i d u k1 k2 => .sh d u (hr i d u k1 k2)⟩
  | fn _ _ _ first caps h1 h2 hf hr => exact ⟨first, caps, rfl, h1, h2, hf, hr⟩
end inv

theorem Sh.belowD {w : World} {ok : Nat → Prop} {d : D} {v : Value} (h : Sh w ok d v) (n : Nat) : BelowD n d := by
  induction h with
  | undef v => exact .undef
  | kb b => exact .kb b
  | lit v => exact .lit v
  | nil o sz => exact .list _ _ _
  | wild o sz a => exact .list _ _ _
  | list => exact .list _ _ _
  | cptr => exact .cptr _ _
  | agg ds vs hl hr ih => exact .agg ds (fun d hd => by
      obtain ⟨i, hi, rfl⟩ := List.getElem_of_mem hd
      exact ih i _ _ (List.getElem?_eq_getElem hi) (Array.getElem?_eq_getElem (by omega)))
  | tup ds vs hl hr ih => exact .tup ds (fun d hd => by
      obtain ⟨i, hi, rfl⟩ := List.getElem_of_mem hd
      exact ih i _ _ (List.getElem?_eq_getElem hi) (Array.getElem?_eq_getElem (by omega)))
  | fn f fs cs first caps h1 h2 hf hr ihf ih => exact .fn f fs cs (fun d hd => by
      obtain ⟨i, hi, rfl⟩ := List.getElem_of_mem hd
      exact ihf i _ _ (List.getElem?_eq_getElem hi) (Array.getElem?_eq_getElem (by omega))) (fun d hd => by
      obtain ⟨i, hi, rfl⟩ := List.getElem_of_mem hd
      exact ih i _ _ (List.getElem?_eq_getElem hi) (Array.getElem?_eq_getElem (by omega)))

theorem Mt.belowD {w : World} {ok : Nat → Prop} {own : Nat → Option Lab} {rt : RT} {d : D} {v : Value} (h : Mt w ok own rt d v) {n : Nat} (hn : ∀ r, rt r ≠ none → r < n) : BelowD n d := by
  induction h with
  | undef v => exact .undef
  | sh d v h => exact h.belowD n
  | ref r p sz off m v h0 => exact .ref r p sz off m (hn r h0)
  | ptr r p off v h0 => exact .ptr r p off (hn r h0)
  | agg ds vs hl hr ih => exact .agg ds (fun d hd => by
      obtain ⟨i, hi, rfl⟩ := List.getElem_of_mem hd
      exact ih i _ _ (List.getElem?_eq_getElem hi) (Array.getElem?_eq_getElem (by omega)))
  | tup ds vs hl hr ih => exact .tup ds (fun d hd => by
      obtain ⟨i, hi, rfl⟩ := List.getElem_of_mem hd
      exact ih i _ _ (List.getElem?_eq_getElem hi) (Array.getElem?_eq_getElem (by omega)))
  | fn f fs cs first caps h1 h2 hf hr ihf ih => exact .fn f fs cs (fun d hd => by
      obtain ⟨i, hi, rfl⟩ := List.getElem_of_mem hd
      exact ihf i _ _ (List.getElem?_eq_getElem hi) (Array.getElem?_eq_getElem (by omega))) (fun d hd => by
      obtain ⟨i, hi, rfl⟩ := List.getElem_of_mem hd
      exact ih i _ _ (List.getElem?_eq_getElem hi) (Array.getElem?_eq_getElem (by omega)))

theorem BelowD.mono {n m : Nat} {d : D} (h : BelowD n d) (hle : n ≤ m) : BelowD m d := by
  induction h with
  | undef => exact .undef
  | kb b => exact .kb b
  | lit v => exact .lit v
  | list => exact .list _ _ _
  | cptr => exact .cptr _ _
  | agg ds _ ih => exact .agg ds ih
  | tup ds _ ih => exact .tup ds ih
  | fn f fs cs _ _ ihf ih => exact .fn f fs cs ihf ih
  | ref r p sz off k h => exact .ref r p sz off k (by omega)
  | ptr r p off h => exact .ptr r p off (by omega)

def newRT (rt : RT) (n : Nat) (l : List (Option Root)) : RT := fun r => if n ≤ r ∧ r < n + l.length then l[r - n]? else rt r
def wrRT : RT → List (Nat × Option Root) → RT
  | rt, [] => rt
  | rt, (r, x) :: l => wrRT (rt.set r x) l
def applyRes (rt : RT) (n : Nat) (res : Res) : RT := newRT (wrRT rt res.wr) n res.new

@[simp] theorem newRT_nil (rt : RT) (n : Nat) : newRT rt n [] = rt := by
  funext r; unfold newRT; rw [if_neg (by simp)]
theorem applyRes_pure (rt : RT) (n : Nat) (d : D) (rd : List Nat) : applyRes rt n { val := d, rd := rd } = rt := by simp [applyRes, wrRT]

theorem newRT_one (rt : RT) (n : Nat) (x : Option Root) : newRT rt n [x] = rt.set n x := by
  funext r; unfold newRT RT.set
  by_cases h : r = n
  · subst h; rw [if_pos (by simp)]; simp
  · rw [if_neg (by simp; omega), if_neg h]

section
variable {P : Program} {o : Oper} {a : Act} {w w' : World} {Kc : Act → World → Prop} {Q : Exit → Act → World → Prop}
theorem wp_value {v : Value} (hr : (execOp a.eval o).run P w = .ok (.value v) w') (h : Kc (a.put o.dst v) w') : o.wp P a w Kc Q := by
  unfold Oper.wp; rw [hr]; exact h
theorem wp_skipped (hr : (execOp a.eval o).run P w = .ok .skip w') (h : Kc (a.put o.dst Go.undef) w') : o.wp P a w Kc Q := by
  unfold Oper.wp; rw [hr]; exact h
end

/-- What an operation's soundness asks of its goal. -/
def Goal (w0 : Base) (env : List D) (rt : RT) (n : Nat) (a : Act) (dst : Option Tmp) (K : Res → Prop) (Kc : Act → World → Prop) : Prop :=
  ∀ res v w' own', K res → Sim w0 (fun i => env.getD i .undef) (applyRes rt n res) (fun i => a.tmps.getD i Go.undef) w' own' →
    Mt w' (okb w' own') own' (applyRes rt n res) res.val v → Kc (a.put dst v) w'

section
variable {P : Program} {T : Tab} {w0 : Base} {w : World} {env : List D} {rt : RT} {own : Nat → Option Lab} {a : Act} {n : Nat} {o : Oper} {K : Res → Prop} {Kc : Act → World → Prop} {Q : Exit → Act → World → Prop}

theorem evO_mt (hs : Sim w0 (fun i => env.getD i .undef) rt (fun i => a.tmps.getD i Go.undef) w own) (x : Operand) : Mt w (okb w own) own rt (evO env x) (a.eval x) := by
  cases x with
  | tmp t => exact hs.env t
  | const v =>
    cases v <;> first | exact .sh _ _ (.kb _) | exact .sh _ _ (.lit _)
  | global g => exact .sh _ _ (.lit _)
  | func f => exact .sh _ _ (.fn _ [] [] #[] #[] rfl rfl (fun i d v h => by simp at h) (fun i d v h => by simp at h))

/-- An operation that computes a value and leaves the world. -/
theorem quiet_sound (hs : Sim w0 (fun i => env.getD i .undef) rt (fun i => a.tmps.getD i Go.undef) w own) (hg : Goal w0 env rt n a o.dst K Kc)
    {d : D} {v : Value} {rd : List Nat} (hk : K { val := d, rd := rd }) (hm : Mt w (okb w own) own rt d v) (hr : (execOp a.eval o).run P w = .ok (.value v) w) : o.wp P a w Kc Q :=
  wp_value hr (hg _ v w own hk (by rw [applyRes_pure]; exact hs) (by rw [applyRes_pure]; exact hm))

theorem move_sound (hs : Sim w0 (fun i => env.getD i .undef) rt (fun i => a.tmps.getD i Go.undef) w own) (hg : Goal w0 env rt n a o.dst K Kc) (x : Operand)
    (ho : o.op = .move x ∨ o.op = .assign x) (h : K { val := evO env x }) : o.wp P a w Kc Q := by
  refine quiet_sound hs hg h (evO_mt hs x) ?_
  rcases ho with ho | ho <;> simp [execOp, ho]

theorem pick_sound (hs : Sim w0 (fun i => env.getD i .undef) rt (fun i => a.tmps.getD i Go.undef) w own) (hg : Goal w0 env rt n a o.dst K Kc) (c x y : Operand)
    (ho : o.op = .pick c x y) (h : evK P T env rt n (.pick c x y) K) : o.wp P a w Kc Q := by
  simp only [evK] at h
  have hc := evO_mt hs c
  split at h
  · rename_i e; rw [e] at hc
    refine quiet_sound hs hg h (evO_mt hs x) ?_
    simp [execOp, ho, hc.kb_inv, asBool]
  · rename_i e; rw [e] at hc
    refine quiet_sound hs hg h (evO_mt hs y) ?_
    simp [execOp, ho, hc.kb_inv, asBool]
  · exact h.elim


end
end Go.Vm
