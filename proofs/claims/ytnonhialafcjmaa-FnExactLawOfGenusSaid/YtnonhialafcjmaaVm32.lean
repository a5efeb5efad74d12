/- The evaluator again, by recursors: what the elaborator and the kernel leave over is then the same. -/
import Derived.Test.YtnonhialafcjmaaVm31
set_option linter.unusedVariables false
set_option linter.unusedSimpArgs false
set_option linter.unusedSectionVars false
namespace Go.Vm
open Go Go.RowKit

noncomputable def seqR (P : Program) (T : Tab) (ops : List Oper) (l : List Oper) : St → (St → Prop) → Prop :=
  List.rec (motive := fun _ => St → (St → Prop) → Prop) (fun st K => K st)
    (fun o _ ih st K => match guardOn ops o st.env with
      | some true => orInl P T o st (fun d rt => forceS ⟨setSlot st.env o.dst d, rt⟩ fun st => ih st K) (runK P T o st fun d res => forceS (nextSt st o.dst d res) fun st => ih st K)
      | some false => forceS ⟨setSlot st.env o.dst (.lit Go.undef), st.rt⟩ fun st => ih st K
      | none => False) l

noncomputable def drawR (P : Program) (T : Tab) (ops : List Oper) (l : List Oper) : St → (List Ent → List Ent) → (St → Prop) → Prop :=
  List.rec (motive := fun _ => St → (List Ent → List Ent) → (St → Prop) → Prop) (fun st log K => chk (okLog ops 0 (log [])) (K st))
    (fun o _ ih st log K => match guardOn ops o st.env with
      | some true => runK P T o st fun d res => forceS (nextSt st o.dst d res) fun st' => ih st' (fun l => log ({ dst := o.dst, val := d, res := res, n := st.rt.length } :: l)) K
      | some false => forceS ⟨setSlot st.env o.dst (.lit Go.undef), st.rt⟩ fun st' => ih st' (fun l => log ({ dst := o.dst, val := .lit Go.undef, res := { val := .undef }, n := st.rt.length } :: l)) K
      | none => False) l

theorem seqR_eq (P : Program) (T : Tab) (ops : List Oper) : ∀ (l : List Oper), seqR P T ops l = seqK P T ops l := by
  intro l
  induction l with
  | nil => funext st K; simp only [seqK]; rfl
  | cons o rest ih =>
    funext st K
    have e : seqR P T ops (o :: rest) st K = (match guardOn ops o st.env with
      | some true => orInl P T o st (fun d rt => forceS ⟨setSlot st.env o.dst d, rt⟩ fun st => seqR P T ops rest st K) (runK P T o st fun d res => forceS (nextSt st o.dst d res) fun st => seqR P T ops rest st K)
      | some false => forceS ⟨setSlot st.env o.dst (.lit Go.undef), st.rt⟩ fun st => seqR P T ops rest st K
      | none => False) := rfl
    rw [e, ih]
    simp only [seqK]
    rfl

theorem drawR_eq (P : Program) (T : Tab) (ops : List Oper) : ∀ (l : List Oper), drawR P T ops l = drawK P T ops l := by
  intro l
  induction l with
  | nil => funext st log K; simp only [drawK]; rfl
  | cons o rest ih =>
    funext st log K
    have e : drawR P T ops (o :: rest) st log K = (match guardOn ops o st.env with
      | some true => runK P T o st fun d res => forceS (nextSt st o.dst d res) fun st' => drawR P T ops rest st' (fun l => log ({ dst := o.dst, val := d, res := res, n := st.rt.length } :: l)) K
      | some false => forceS ⟨setSlot st.env o.dst (.lit Go.undef), st.rt⟩ fun st' => drawR P T ops rest st' (fun l => log ({ dst := o.dst, val := .lit Go.undef, res := { val := .undef }, n := st.rt.length } :: l)) K
      | none => False) := rfl
    rw [e, ih]
    simp only [drawK]
    rfl

noncomputable def vcR (P : Program) (T : Tab) (kp : Nat) (c : Code) : (Exit → St → Prop) → St → Prop :=
  Code.rec (motive := fun _ => (Exit → St → Prop) → St → Prop)
    (fun Q st => Q .normal st)
    (fun _ ops draw Q st => match draw with
      | false => seqR P T ops.toList ops.toList st (Q .normal)
      | true => slotsOk ops = true ∧ drawR P T ops.toList ops.toList st (fun l => l) (Q .normal))
    (fun _ _ ihx ihy Q st => ihx (fun e st' => match e with
      | .normal => ihy Q st'
      | e => Q e st') st)
    (fun c _ _ ihx ihy Q st => match evO st.env c with
      | .kb true => ihx Q st
      | .kb false => ihy Q st
      | _ => False)
    (fun id _ ih Q st => ih (fun e st' => match e with
      | .exit j => (match Nat.beq j id with
        | true => Q .normal st'
        | false => Q (.exit j) st')
      | e => Q e st') st)
    (fun c _ Q st => forceS st (LoopK P kp c Q))
    (fun _ _ _ _ _ _ _ _ => False)
    (fun id Q st => Q (.exit id) st)
    (fun _ _ _ _ => False)
    (fun _ Q st => Q .normal st)
    (fun _ _ _ => False)
    (fun Q st => Q .ret st)
    (fun _ _ _ => False) c

theorem vcR_eq (P : Program) (T : Tab) (kp : Nat) : ∀ (c : Code), vcR P T kp c = vc P T kp c := by
  intro c
  induction c with
  | skip => funext Q st; simp only [vc]; rfl
  | region id ops draw =>
    funext Q st
    cases draw with
    | false => show seqR P T ops.toList ops.toList st (Q .normal) = _; simp only [vc, seqR_eq]
    | true => show (slotsOk ops = true ∧ drawR P T ops.toList ops.toList st (fun l => l) (Q .normal)) = _; simp only [vc, drawR_eq]
  | seq x y ihx ihy =>
    funext Q st
    show vcR P T kp x (fun e st' => match e with
      | .normal => vcR P T kp y Q st'
      | e => Q e st') st = _
    rw [ihx, ihy]
    simp only [vc]
    rfl
  | cond c x y ihx ihy =>
    funext Q st
    show (match evO st.env c with
      | .kb true => vcR P T kp x Q st
      | .kb false => vcR P T kp y Q st
      | _ => False) = _
    rw [ihx, ihy]
    simp only [vc]
    rfl
  | block id c ih =>
    funext Q st
    show vcR P T kp c (fun e st' => match e with
      | .exit j => (match Nat.beq j id with
        | true => Q .normal st'
        | false => Q (.exit j) st')
      | e => Q e st') st = _
    rw [ih]
    simp only [vc]
    rfl
  | loop c ih => funext Q st; simp only [vc]; rfl
  | rangeFunc f ps a b iha ihb => funext Q st; simp only [vc]; rfl
  | exit id => funext Q st; simp only [vc]; rfl
  | scope b ih => funext Q st; simp only [vc]; rfl
  | label l => funext Q st; simp only [vc]; rfl
  | goto l => funext Q st; simp only [vc]; rfl
  | ret => funext Q st; simp only [vc]; rfl
  | refuse why => funext Q st; simp only [vc]; rfl

section
variable {P : Program} {T : Tab} {kp : Nat}
theorem loop_atR (hT : TabOk P T) (hm : P.follows .mixedOrders = true) {body : Code} {Q : Exit → St → Prop} {st : St} {α : Type} (cs : α → List (Nat × D)) (rs : α → List (Nat × Option Root)) (J : α → Prop) (μ : α → Nat) (x0 : α) (h0 : J x0)
    (hw : forceNs (dstsC body) fun ds => WeakS kp st (gcSt kp (mkSt st ds (cs x0) (rs x0))))
    (round : ∀ x, J x → forceNs (dstsC body) fun ds => forceGc kp (mkSt st ds (cs x) (rs x)) (vcR P T kp body (fun e st' => match e with
      | .normal => ∃ y, J y ∧ μ y < μ x ∧ Weak kp st' (gcSt kp (mkSt st ds (cs y) (rs y)))
      | e => Q e st'))) : LoopK P kp body Q st :=
  loop_at hT hm cs rs J μ x0 h0 hw (fun x hx => by rw [← vcR_eq]; exact round x hx)

theorem inl_ofR (hT : TabOk P T) (hm : P.follows .mixedOrders = true) {g : Nat} {fs cs args : List D} {st : St} {K : D → List (Option Root) → Prop} (fn : Func) {c : Code} (h1 : P.funcs[g]? = some fn) (h2 : fn.body = some c) (h3 : (fn.name == "runtime.NumGoroutine") = false)
    (h : vcR P T st.rt.length c (fun e st' => (e = .ret ∨ e = .normal) ∧ resuK T st'.env (rtOf st'.rt) fn.results.toList fun ds => normB (oneD ds) fun d => K d st'.rt)
        ⟨(fs ++ args ++ cs) ++ List.replicate (fn.ntmps - (fs ++ args ++ cs).length) .undef, st.rt⟩) : inlK P T (.fn (.func g) fs cs) args st K :=
  inl_of hT hm fn h1 h2 h3 (by rw [← vcR_eq]; exact h)

theorem pure_of_vcR (hT : TabOk P T) (hmo : P.follows .mixedOrders = true) {f : FuncId} {fn : Func} {c : Code} {args : List D} {rs : D} (hfn : P.funcs[f]? = some fn) (hb : fn.body = some c)
    (hname : (fn.name == "runtime.NumGoroutine") = false)
    (h : vcR P T 0 c (fun e st' => (e = .ret ∨ e = .normal) ∧ resuK T st'.env (rtOf st'.rt) fn.results.toList fun ds => retK (rtOf st'.rt) (oneD ds) fun rs' => rs' = rs)
      ⟨args ++ List.replicate (fn.ntmps - args.length) .undef, []⟩) : PureCall P f args rs :=
  pure_of_vc hT hmo hfn hb hname (by rw [← vcR_eq]; exact h)
end
end Go.Vm
