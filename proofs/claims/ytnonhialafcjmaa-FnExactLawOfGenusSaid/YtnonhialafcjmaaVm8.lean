/- The evaluator is sound: arithmetic, fields, places, slices. -/
import Derived.Test.YtnonhialafcjmaaVm7
set_option linter.unusedVariables false
set_option linter.unusedSimpArgs false
set_option linter.unusedSectionVars false
namespace Go.Vm
open Go Go.RowKit

theorem TabOk.info {P : Program} {T : Tab} (hT : TabOk P T) {t : Nat} (h : (T.get t).size ≠ 0) :
    ∃ i d, P.info? t = some i ∧ P.underlying t = some d ∧ i.size = (T.get t).size ∧ i.bytes = (T.get t).bytes ∧ i.zero = some (T.get t).zero ∧ (T.get t).ty = Ty.ofDesc d := by
  have hg : T[t]? = some (T.get t) := by
    unfold Tab.get at *
    cases ht : T[t]? with
    | none => simp [ht] at h
    | some i => simp [ht]
  have := hT t _ hg h
  unfold probe at this
  split at this
  · rename_i i d h1 h2
    split at this
    · rename_i z hz
      simp only [Option.some.injEq] at this
      refine ⟨i, d, h1, h2, ?_⟩
      rw [← this]
      exact ⟨rfl, rfl, hz, rfl⟩
    · cases this
  · cases this

theorem Ty.ofDesc_slice {d : TypeDesc} {e : Nat} (h : Ty.ofDesc d = .slice e) : d = .slice e := by
  cases d <;> simp [Ty.ofDesc] at h; subst h; rfl
theorem Ty.ofDesc_int {d : TypeDesc} {k : IntKind} (h : Ty.ofDesc d = .int k) : d = .int k := by
  cases d <;> simp [Ty.ofDesc] at h; subst h; rfl
theorem Ty.ofDesc_struct {d : TypeDesc} {fs : List (Nat × Nat)} (h : Ty.ofDesc d = .struct fs) : ∃ f : Array Field, d = .struct f ∧ fs = f.toList.map fun x => (x.offset, x.type) := by
  cases d <;> simp [Ty.ofDesc] at h; exact ⟨_, rfl, h.symm⟩
theorem Ty.get_size {T : Tab} {t : Nat} (h : (T.get t).ty ≠ .other) : T[t]? = some (T.get t) := by
  unfold Tab.get at *
  cases ht : T[t]? with
  | none => simp [ht] at h
  | some i => simp [ht]

section
variable {P : Program} {T : Tab} {w0 : Base} {w : World} {env : List D} {rt : RT} {own : Nat → Option Lab} {a : Act} {n : Nat} {o : Oper} {K : Res → Prop} {Kc : Act → World → Prop} {Q : Exit → Act → World → Prop}

theorem boolP_sound (hs : Sim w0 (fun i => env.getD i .undef) rt (fun i => a.tmps.getD i Go.undef) w own) (hg : Goal w0 env rt n a o.dst K Kc)
    {p : Prop} (h : boolP p K) {b : Bool} (hb : b = true ↔ p) (hr : (execOp a.eval o).run P w = .ok (.value (.bool b)) w) : o.wp P a w Kc Q := by
  cases b with
  | true => exact quiet_sound hs hg (h.1 (hb.1 rfl)) (.sh _ _ (.kb true)) hr
  | false => exact quiet_sound hs hg (h.2 (fun hp => by have := hb.2 hp; cases this)) (.sh _ _ (.kb false)) hr

theorem bin_sound (hT : TabOk P T) (hs : Sim w0 (fun i => env.getD i .undef) rt (fun i => a.tmps.getD i Go.undef) w own) (hg : Goal w0 env rt n a o.dst K Kc) (op : BinOp) (t t' : TypeId) (x y : Operand)
    (ho : o.op = .binOp op t x y t') (h : binK T t op (evO env x) (evO env y) K) : o.wp P a w Kc Q := by
  have hx := evO_mt hs x
  have hy := evO_mt hs y
  unfold binK at h
  split at h
  · rename_i k c k' d e1 e2
    rw [e1] at hx; rw [e2] at hy
    have vx := hx.lit_inv
    have vy := hy.lit_inv
    have h1 := chk_and h; clear h; obtain ⟨hk, h⟩ := h1
    · have hk := ikEq_eq hk
      subst hk
      have run : ∀ v, (Go.binOp op t (.int k c) (.int k d)).run P w = .ok v w → (execOp a.eval o).run P w = .ok (.value v) w := fun v hv => by
        cases op <;> simp [execOp, ho, vx, vy, eqGuard, hv]
      have bl : ∀ (b : Bool), (Go.binOp op t (.int k c) (.int k d)).run P w = .ok (.bool b) w → (execOp a.eval o).run P w = .ok (.value (.bool b)) w := fun b hv => run _ hv
      have ik : ∀ m, intK k m K → (Go.binOp op t (.int k c) (.int k d)).run P w = .ok (.int k (k.wrap m)) w → o.wp P a w Kc Q := fun m hm hv => by
        unfold intK inR at hm
        rw [hm.1] at hv
        exact quiet_sound hs hg hm.2 (.sh _ _ (.lit _)) (run _ hv)
      cases op <;> simp only at h
      case add => exact ik _ h (by simp [Go.binOp, Op.intArith])
      case sub => exact ik _ h (by simp [Go.binOp, Op.intArith])
      case mul => exact ik _ h (by simp [Go.binOp, Op.intArith])
      case quo => exact ik _ h.2 (by simp [Go.binOp, Op.intDiv, h.1])
      case rem => exact quiet_sound hs hg h.2 (.sh _ _ (.lit _)) (run _ (by simp [Go.binOp, Op.intDiv, h.1]))
      case eql => exact boolP_sound hs hg h (b := c == d) (by simp) (bl _ (by simp [Go.binOp, Op.intCmp]))
      case neq => exact boolP_sound hs hg h (b := c != d) (by simp) (bl _ (by simp [Go.binOp, Op.intCmp]))
      case lss => exact boolP_sound hs hg h (b := decide (c < d)) (by simp) (bl _ (by simp [Go.binOp, Op.intCmp]))
      case leq => exact boolP_sound hs hg h (b := decide (c ≤ d)) (by simp) (bl _ (by simp [Go.binOp, Op.intCmp]))
      case gtr => exact boolP_sound hs hg h (b := decide (c > d)) (by simp) (bl _ (by simp [Go.binOp, Op.intCmp]))
      case geq => exact boolP_sound hs hg h (b := decide (c ≥ d)) (by simp) (bl _ (by simp [Go.binOp, Op.intCmp]))
  · rename_i c d e1 e2
    rw [e1] at hx; rw [e2] at hy
    have vx := hx.kb_inv
    have vy := hy.kb_inv
    have h1 := chk_and h; clear h; obtain ⟨hk, h⟩ := h1
    simp only [Bool.and_eq_true, Bool.not_eq_true', ← Bool.not_eq_true, Nat.beq_eq] at hk
    obtain ⟨_, ds, _, hds, _, _, _, hty⟩ := hT.info hk.1
    have hb : ds = .bool := by
      have := hk.2
      rw [hty] at this
      cases ds <;> simp [Ty.ofDesc, Ty.isBool] at this; rfl
    subst hb
    have he0 : ∀ m, (Op.equalIn (m + 1) t (.bool c) (.bool d)).run P w = .ok (c == d) w := fun m => by
      simp [Op.equalIn, underlying, program, Sem.run, hds]
    have he : (Op.equal t (.bool c) (.bool d)).run P w = .ok (c == d) w := he0 9999
    cases op <;> simp only at h
    case eql => exact quiet_sound hs hg h (.sh _ _ (.kb _)) (by simp [execOp, ho, vx, vy, eqGuard, Go.binOp, Sem.run_bind, he])
    case neq => exact quiet_sound hs hg h (.sh _ _ (.kb _)) (by simp [execOp, ho, vx, vy, eqGuard, Go.binOp, Sem.run_bind, he]; cases c <;> cases d <;> rfl)
  · exact h.elim

theorem un_sound (hs : Sim w0 (fun i => env.getD i .undef) rt (fun i => a.tmps.getD i Go.undef) w own) (hg : Goal w0 env rt n a o.dst K Kc) (op : UnOp) (t : TypeId) (x : Operand)
    (ho : o.op = .unOp op t x) (h : unK op (evO env x) K) : o.wp P a w Kc Q := by
  have hx := evO_mt hs x
  unfold unK at h
  split at h
  · rename_i k c e1
    rw [e1] at hx
    have vx := hx.lit_inv
    unfold intK inR at h
    exact quiet_sound hs hg h.2 (.sh _ _ (.lit _)) (by
      have := h.1; simp at this
      simp [execOp, ho, vx, Op.unary, Op.intArith, this])
  · rename_i b e1
    rw [e1] at hx
    have vx := hx.kb_inv
    exact quiet_sound hs hg h (.sh _ _ (.kb _)) (by simp [execOp, ho, vx, Op.unary])
  · exact h.elim

theorem convert_sound (hT : TabOk P T) (hs : Sim w0 (fun i => env.getD i .undef) rt (fun i => a.tmps.getD i Go.undef) w own) (hg : Goal w0 env rt n a o.dst K Kc) (src dst : TypeId) (x : Operand)
    (ho : o.op = .convert src dst x) (h : convK T src dst (evO env x) K) : o.wp P a w Kc Q := by
  have hx := evO_mt hs x
  unfold convK at h
  have h1 := chk_and h; clear h; obtain ⟨hc, h⟩ := h1
  simp only [Bool.and_eq_true, Bool.not_eq_true', ← Bool.not_eq_true, Nat.beq_eq] at hc
  obtain ⟨hsz, hdst⟩ := hc
  obtain ⟨_, ds, _, hds, _⟩ := hT.info hsz
  split at h
  · rename_i k k' c e1 e2
    rw [e2] at hx
    have vx := hx.lit_inv
    obtain ⟨i, d, _, hu, _, _, _, hty⟩ := hT.info hdst
    rw [e1] at hty
    have := Ty.ofDesc_int hty.symm
    subst this
    unfold intK inR at h
    refine quiet_sound hs hg h.2 (.sh _ _ (.lit _)) ?_
    simp [execOp, ho, vx, convert, run_underlying hu, run_underlying hds, Conv.intToInt, h.1]
  · exact h.elim

theorem makeFunc_sound (hs : Sim w0 (fun i => env.getD i .undef) rt (fun i => a.tmps.getD i Go.undef) w own) (hg : Goal w0 env rt n a o.dst K Kc) (fn : Fn) (first captured : Array Operand)
    (ho : o.op = .makeFunc fn first captured) (h : K { val := .fn fn (first.toList.map (evO env)) (captured.toList.map (evO env)) }) : o.wp P a w Kc Q := by
  refine quiet_sound hs hg h (v := .func fn (first.map a.eval) (captured.map a.eval)) (.fn _ _ _ _ _ (by simp) (by simp) (fun i d v h1 h2 => ?_) (fun i d v h1 h2 => ?_)) ?_
  · simp only [List.getElem?_map, Option.map_eq_some_iff, Array.getElem?_toList] at h1
    obtain ⟨x, hx, rfl⟩ := h1
    simp only [Array.getElem?_map, hx, Option.map_some, Option.some.injEq] at h2
    subst h2; exact evO_mt hs x
  · simp only [List.getElem?_map, Option.map_eq_some_iff, Array.getElem?_toList] at h1
    obtain ⟨x, hx, rfl⟩ := h1
    simp only [Array.getElem?_map, hx, Option.map_some, Option.some.injEq] at h2
    subst h2; exact evO_mt hs x
  · simp [execOp, ho, Instr.makeFunc]

theorem extract_sound (hs : Sim w0 (fun i => env.getD i .undef) rt (fun i => a.tmps.getD i Go.undef) w own) (hg : Goal w0 env rt n a o.dst K Kc) (x : Operand) (i : Nat)
    (ho : o.op = .extract x i) (h : extractK (evO env x) i K) : o.wp P a w Kc Q := by
  have hx := evO_mt hs x
  unfold extractK at h
  split at h
  · rename_i ds e1
    rw [e1] at hx
    obtain ⟨vs, hv, hl, hr⟩ := hx.tup_inv
    split at h
    · rename_i d hd
      have hlt : i < vs.size := by rw [hl]; exact (List.getElem?_eq_some_iff.1 hd).1
      refine quiet_sound hs hg h (hr i d vs[i] hd (Array.getElem?_eq_getElem hlt)) ?_
      simp [execOp, ho, hv, Instr.extract, Array.getElem?_eq_getElem hlt]
    · exact h.elim
  · exact h.elim

theorem Addr.add_off (b off k : Nat) : (⟨b, off, none⟩ : Addr).add k = ⟨b, off + k, none⟩ := by
  cases k <;> simp [Addr.add]

theorem fieldAddr_sound (hT : TabOk P T) (hs : Sim w0 (fun i => env.getD i .undef) rt (fun i => a.tmps.getD i Go.undef) w own) (hg : Goal w0 env rt n a o.dst K Kc) (s : TypeId) (x : Operand) (f : Nat)
    (ho : o.op = .fieldAddr s x f) (h : fieldAddrK T rt s (evO env x) f K) : o.wp P a w Kc Q := by
  have hx := evO_mt hs x
  unfold fieldAddrK at h
  have h1 := chk_and h; clear h; obtain ⟨hsz, h⟩ := h1
  simp only [Bool.not_eq_true', ← Bool.not_eq_true, Nat.beq_eq] at hsz
  obtain ⟨i, d, _, hu, _, _, _, hty⟩ := hT.info hsz
  have key : ∀ off ti, fieldOf T s f = some (off, ti) → ti.size ≠ 0 → ∀ b q, a.eval x = .pointer (some ⟨b, q, none⟩) → (execOp a.eval o).run P w = .ok (.value (.pointer (some ⟨b, q + off, none⟩))) w := by
    intro off ti hf hti b q hv
    unfold fieldOf at hf
    split at hf
    · rename_i fs hfs
      split at hf
      · rename_i o' t' hft
        simp only [Option.some.injEq, Prod.mk.injEq] at hf
        obtain ⟨rfl, rfl⟩ := hf
        rw [hfs] at hty
        obtain ⟨fa, rfl, rfl⟩ := Ty.ofDesc_struct hty.symm
        simp only [List.getElem?_map, Option.map_eq_some_iff, Array.getElem?_toList] at hft
        obtain ⟨fd, hfd, he⟩ := hft
        cases he
        obtain ⟨it, dt, hi, _, hsz', _⟩ := hT.info hti
        have : it.size ≠ 0 := by rw [hsz']; exact hti
        simp [execOp, ho, hv, Instr.fieldAt, run_underlying hu, hfd, Instr.sureAddr, fieldPlace, sizeOf, typeInfo, hi, this, Addr.add_off]
      · cases hf
    · cases hf
  split at h
  · rename_i o' ti r p off e1 e2
    have h1 := chk_and h; clear h; obtain ⟨hz, h⟩ := h1
    simp only [Bool.not_eq_true', ← Bool.not_eq_true, Nat.beq_eq] at hz
    rw [e2] at hx
    split at h
    · rename_i R hR
      obtain ⟨h0, hp⟩ := hx.ptr_inv
      obtain ⟨b, arr, e, hb, hw, hv⟩ := hp R hR
      exact quiet_sound hs hg h (.ptr _ _ _ _ h0 rfl (fun R' hR' => ⟨hx.ptr_path R' hR', b, arr, e, hb, hw, rfl⟩)) (key _ _ e1 hz b off hv)
    · exact h.elim
  · rename_i o' ti cs off e1 e2
    have h1 := chk_and h; clear h; obtain ⟨hz, h⟩ := h1
    simp only [Bool.not_eq_true', ← Bool.not_eq_true, Nat.beq_eq] at hz
    rw [e2] at hx
    generalize hv : a.eval x = v at hx
    have := hx.cptr_inv
    cases this with
    | cptr _ _ b q hb hc hr =>
      refine quiet_sound hs hg h (v := .pointer (some ⟨b, q + off + o', none⟩)) ?_ (key _ _ e1 hz b (q + off) hv)
      rw [show q + off + o' = q + (off + o') by omega]
      exact .sh _ _ (.cptr cs (off + o') b q hb hc hr)
  · exact h.elim

end
end Go.Vm
