/- States that are known in part. -/
import Derived.Test.YtllcbelphabdpaaVm28
import Derived.Test.YtllcbelphabdpaaAlg7

set_option linter.unusedVariables false
set_option linter.unusedSimpArgs false
set_option linter.unusedSectionVars false
namespace Go.Vm
open Go Go.RowKit

/-- Slots forgotten. -/
def envLe : List D → List D → Prop
  | [], [] => True
  | d2 :: ds2, d :: ds => (d2 = .undef ∨ d2 = d) ∧ envLe ds2 ds
  | _, _ => False
theorem envLe_at : ∀ {e2 e : List D}, envLe e2 e → e2.length = e.length ∧ ∀ i, e2.getD i .undef = .undef ∨ e2.getD i .undef = e.getD i .undef
  | [], [], _ => ⟨rfl, fun i => .inl rfl⟩
  | d2 :: ds2, d :: ds, h => by
    obtain ⟨h1, h2⟩ := envLe_at h.2
    refine ⟨by simp [h1], fun i => ?_⟩
    cases i with
    | zero => simpa using h.1
    | succ i => simpa using h2 i
  | [], _ :: _, h => h.elim
  | _ :: _, [], h => h.elim
theorem Weak.env {kp : Nat} {e2 e : List D} {rt : List (Option Root)} (h : envLe e2 e) : Weak kp ⟨e, rt⟩ ⟨e2, rt⟩ := by
  intro w0 a w hkp hf
  obtain ⟨own, hd, hl, hs⟩ := hf
  obtain ⟨h1, h2⟩ := envLe_at h
  refine ⟨own, hd, by simpa [h1] using hl, ⟨hs.below, fun i => ?_, hs.roots, hs.lab, hs.inj, hs.susp⟩⟩
  rcases h2 i with e1 | e1
  · show Mt w _ _ _ (e2.getD i .undef) _
    rw [e1]; exact .undef _
  · show Mt w _ _ _ (e2.getD i .undef) _
    rw [e1]; exact hs.env i
theorem rtOf_at {rt : List (Option Root)} {r : Nat} {x : Option Root} (h : rt[r]? = some x) : rtOf rt r = some x := h
theorem forceR_to {l l' : List (Option Root)} {k : List (Option Root) → Prop} (e : l = l') (h : k l') : forceR l k := by rw [forceR_eq, e]; exact h
end Go.Vm

/- Tables in two variables: obligations. -/
set_option linter.unusedVariables false
set_option linter.unusedSimpArgs false
set_option linter.unusedSectionVars false
namespace Go.Vm
open Go Go.RowKit Go.Fg

/-- A number put into a table. -/
def setT (t : List (List Int)) (i j : Nat) (x : Int) : List (List Int) := t.set i ((t.getD i []).set j x)
@[simp] theorem setT_length (t : List (List Int)) (i j : Nat) (x : Int) : (setT t i j x).length = t.length := by simp [setT]
theorem setT_getD (t : List (List Int)) (i j : Nat) (x : Int) (k : Nat) : ((setT t i j x).getD k []).length = (t.getD k []).length := by
  unfold setT
  by_cases h : i = k
  · subst h
    by_cases h2 : i < t.length
    · simp [h2]
    · simp [List.set_eq_of_length_le (by omega : t.length ≤ i)]
  · simp [List.getElem?_set_ne h]
theorem updB_rows (t : List (List Int)) {i : Nat} (h : i < t.length) (f : List D → List D) (l : List Int) (hf : f (ints (t.getD i [])) = ints l) : updB (rows true t) [i] f = rows true (t.set i l) := by
  show (match (rows true t)[i]? with | some (.list true sz cs') => (rows true t).set i (.list true sz (updB cs' [] f)) | _ => rows true t) = _
  rw [rows_get h]
  show (rows true t).set i (.list true 1 (f (ints (t.getD i [])))) = _
  rw [hf, rows_set]
theorem store_rows {t : List (List Int)} {i j : Nat} (x : Int) (h : i < t.length) (h2 : j < (t.getD i []).length) : StoreRow (rows true t) [i] j (dint x) (rows true (setT t i j x)) := by
  refine ⟨_, getB_rows h, by simpa using h2, fun y hy => ?_, ?_⟩
  · simp only [ints, List.getElem?_map, Option.map_eq_some_iff] at hy
    obtain ⟨a, _, rfl⟩ := hy; rfl
  · exact updB_rows t h _ _ (ints_set _ _ _)
theorem rowLen {m : Int} {n i : Nat} {f : PS (PS (Zm m))} (h : i < n) : ((Tb n f).getD i []).length = n - i := by rw [Tb_getD f h]; simp
theorem vStoreR {t : List (List Int)} {q i k j : Nat} (x : Int) (e : q = i := by exact vIx) (e2 : k = j := by exact vIx) (h : i < t.length := by exact vAr) (h2 : j < (t.getD i []).length := by exact vAr) : StoreRow (rows true t) [q] k (dint x) (rows true (setT t i j x)) := by subst e; subst e2; exact store_rows x h h2
theorem vStoreT {m : Int} {n q i k j : Nat} {f : PS (PS (Zm m))} (x : Int) (e : q = i := by exact vIx) (e2 : k = j := by exact vIx) (h : i + j < n := by exact vAr) : StoreRow (rows true (Tb n f)) [q] k (dint x) (rows true (setT (Tb n f) i j x)) := by
  subst e; subst e2
  exact store_rows x (by simp; omega) (by rw [rowLen (by omega)]; omega)
theorem setT_eq {m : Int} {n i j : Nat} {f g : PS (PS (Zm m))} {x : Int} (v : Zm m) (hx : x = v.val) (h : i < n) (ha : Ag2 n (upd2 f i j v) g) : setT (Tb n f) i j x = Tb n g := by
  subst hx
  unfold setT
  rw [Tb_getD f h, L_set, Tb_set f _ h]
  exact Tb_congr ha
theorem rows_congr {o : Bool} {t t' : List (List Int)} (h : t = t') : rows o t = rows o t' := by rw [h]
theorem vAppT {m : Int} {n k : Nat} {f : PS (PS (Zm m))} (t : List (List Int)) (l : List Int) : rows true t ++ [.list true 1 (ints l)] = rows true (t ++ [l]) := rows_append true t l
theorem vLoadRT {m : Int} {n k i : Nat} {f : PS (PS (Zm m))} (e : k = i := by exact vIx) (h : i < n := by exact vAr) : LoadRow (rows true (Tb n f)) [] k (.list true 1 (ints (L (n - i) (f.c i)))) := vRowT e h
theorem sub_rows {o : Bool} {t : List (List Int)} {n : Nat} (h : n = t.length) : sub (rows o t) 1 0 n = rows o t := by
  subst h
  simp [sub, rows, List.take_of_length_le]
theorem vSubR {o : Bool} {t : List (List Int)} {n : Nat} (h : n = t.length := by first | exact vAr | (simp; first | done | omega)) : sub (rows o t) 1 0 n = rows o t := sub_rows h
theorem sub_one (d : D) : sub [d] 1 0 1 = [d] := rfl
/-- Arithmetic with tables. -/
theorem vArT {p : Prop} (h : p := by simp only [cnt1, ints_length, rows_length, setT_length, TbP_length, pasc_length, Tb_length, L_length, Nat.mul_one]; first | done | omega) : p := h
/-- An obligation with a hole, of tables. -/
theorem vObt {p : Prop} (h : p := by first | exact sub_one _ | exact vStoreT _ | exact vStoreR _ | exact vSubR) : p := h
end Go.Vm

/- The evaluator again, by recursors: what the elaborator and the kernel leave over is then the same. -/
set_option linter.unusedVariables false
set_option linter.unusedSimpArgs false
set_option linter.unusedSectionVars false
namespace Go.Vm
open Go Go.RowKit

noncomputable def seqR (P : Program) (T : Tab) (kp : Nat) (ops : List Oper) (l : List Oper) : St → (St → Prop) → Prop :=
  List.rec (motive := fun _ => St → (St → Prop) → Prop) (fun st K => K st)
    (fun o _ ih st K => match guardOn ops o st.env with
      | some true => orMove T kp o st (fun st => forceS st fun st => ih st K)
          (orInl P T o st (fun d rt => forceS ⟨setSlot st.env o.dst d, rt⟩ fun st => ih st K) (runK P T o st fun d res => forceS (nextSt st o.dst d res) fun st => ih st K))
      | some false => forceS ⟨setSlot st.env o.dst (.lit Go.undef), st.rt⟩ fun st => ih st K
      | none => False) l

noncomputable def drawR (P : Program) (T : Tab) (ops : List Oper) (l : List Oper) : St → (List Ent → List Ent) → (St → Prop) → Prop :=
  List.rec (motive := fun _ => St → (List Ent → List Ent) → (St → Prop) → Prop) (fun st log K => chk (okLog ops 0 (log [])) (K st))
    (fun o _ ih st log K => match guardOn ops o st.env with
      | some true => runK P T o st fun d res => forceS (nextSt st o.dst d res) fun st' => ih st' (fun l => log ({ dst := o.dst, val := d, res := res, n := st.rt.length } :: l)) K
      | some false => forceS ⟨setSlot st.env o.dst (.lit Go.undef), st.rt⟩ fun st' => ih st' (fun l => log ({ dst := o.dst, val := .lit Go.undef, res := { val := .undef }, n := st.rt.length } :: l)) K
      | none => False) l

theorem seqR_eq (P : Program) (T : Tab) (kp : Nat) (ops : List Oper) : ∀ (l : List Oper), seqR P T kp ops l = seqK P T kp ops l := by
  intro l
  induction l with
  | nil => funext st K; simp only [seqK]; rfl
  | cons o rest ih =>
    funext st K
    have e : seqR P T kp ops (o :: rest) st K = (match guardOn ops o st.env with
      | some true => orMove T kp o st (fun st => forceS st fun st => seqR P T kp ops rest st K)
          (orInl P T o st (fun d rt => forceS ⟨setSlot st.env o.dst d, rt⟩ fun st => seqR P T kp ops rest st K) (runK P T o st fun d res => forceS (nextSt st o.dst d res) fun st => seqR P T kp ops rest st K))
      | some false => forceS ⟨setSlot st.env o.dst (.lit Go.undef), st.rt⟩ fun st => seqR P T kp ops rest st K
      | none => False) := rfl
    rw [e, ih]
    simp only [seqK]
    rfl

theorem drawR_eq (P : Program) (T : Tab) (ops : List Oper) : ∀ (l : List Oper), drawR P T ops l = drawK P T ops l := by
  intro l
  induction l with
  | nil => funext st log K; simp only [drawK]; rfl
  | cons o rest ih =>
    funext st log K
    have e : drawR P T ops (o :: rest) st log K = (match guardOn ops o st.env with
      | some true => runK P T o st fun d res => forceS (nextSt st o.dst d res) fun st' => drawR P T ops rest st' (fun l => log ({ dst := o.dst, val := d, res := res, n := st.rt.length } :: l)) K
      | some false => forceS ⟨setSlot st.env o.dst (.lit Go.undef), st.rt⟩ fun st' => drawR P T ops rest st' (fun l => log ({ dst := o.dst, val := .lit Go.undef, res := { val := .undef }, n := st.rt.length } :: l)) K
      | none => False) := rfl
    rw [e, ih]
    simp only [drawK]
    rfl

noncomputable def vcR (P : Program) (T : Tab) (kp : Nat) (c : Code) : (Exit → St → Prop) → St → Prop :=
  Code.rec (motive := fun _ => (Exit → St → Prop) → St → Prop)
    (fun Q st => Q .normal st)
    (fun _ ops draw Q st => match draw with
      | false => seqR P T kp ops.toList ops.toList st (Q .normal)
      | true => slotsOk ops = true ∧ match lastC T ops.toList with
        | true => drawR P T ops.toList (initO ops.toList) st (fun l => l) (fun st' => seqR P T kp ops.toList (lastL ops.toList) st' (Q .normal))
        | false => drawR P T ops.toList ops.toList st (fun l => l) (Q .normal))
    (fun _ _ ihx ihy Q st => ihx (fun e st' => match e with
      | .normal => ihy Q st'
      | e => Q e st') st)
    (fun c _ _ ihx ihy Q st => match evO st.env c with
      | .kb true => ihx Q st
      | .kb false => ihy Q st
      | _ => False)
    (fun id _ ih Q st => ih (fun e st' => match e with
      | .exit j => (match Nat.beq j id with
        | true => Q .normal st'
        | false => Q (.exit j) st')
      | e => Q e st') st)
    (fun c _ Q st => forceS st (LoopK P kp c Q))
    (fun _ _ _ _ _ _ _ _ => False)
    (fun id Q st => Q (.exit id) st)
    (fun _ _ _ _ => False)
    (fun _ Q st => Q .normal st)
    (fun _ _ _ => False)
    (fun Q st => Q .ret st)
    (fun _ _ _ => False) c

theorem vcR_eq (P : Program) (T : Tab) (kp : Nat) : ∀ (c : Code), vcR P T kp c = vc P T kp c := by
  intro c
  induction c with
  | skip => funext Q st; simp only [vc]; rfl
  | region id ops draw =>
    funext Q st
    cases draw with
    | false => show seqR P T kp ops.toList ops.toList st (Q .normal) = _; simp only [vc, seqR_eq]
    | true =>
      show (slotsOk ops = true ∧ match lastC T ops.toList with
        | true => drawR P T ops.toList (initO ops.toList) st (fun l => l) (fun st' => seqR P T kp ops.toList (lastL ops.toList) st' (Q .normal))
        | false => drawR P T ops.toList ops.toList st (fun l => l) (Q .normal)) = _
      simp only [vc, drawR_eq, seqR_eq]
      cases lastC T ops.toList <;> rfl
  | seq x y ihx ihy =>
    funext Q st
    show vcR P T kp x (fun e st' => match e with
      | .normal => vcR P T kp y Q st'
      | e => Q e st') st = _
    rw [ihx, ihy]
    simp only [vc]
    rfl
  | cond c x y ihx ihy =>
    funext Q st
    show (match evO st.env c with
      | .kb true => vcR P T kp x Q st
      | .kb false => vcR P T kp y Q st
      | _ => False) = _
    rw [ihx, ihy]
    simp only [vc]
    rfl
  | block id c ih =>
    funext Q st
    show vcR P T kp c (fun e st' => match e with
      | .exit j => (match Nat.beq j id with
        | true => Q .normal st'
        | false => Q (.exit j) st')
      | e => Q e st') st = _
    rw [ih]
    simp only [vc]
    rfl
  | loop c ih => funext Q st; simp only [vc]; rfl
  | rangeFunc f ps a b iha ihb => funext Q st; simp only [vc]; rfl
  | exit id => funext Q st; simp only [vc]; rfl
  | scope b ih => funext Q st; simp only [vc]; rfl
  | label l => funext Q st; simp only [vc]; rfl
  | goto l => funext Q st; simp only [vc]; rfl
  | ret => funext Q st; simp only [vc]; rfl
  | refuse why => funext Q st; simp only [vc]; rfl

/-! States that say less, by recursors. -/
noncomputable def wkLgR (f : D → D → Prop → Prop) (l : List D) : List D → Prop → Prop :=
  List.rec (motive := fun _ => List D → Prop → Prop) (fun ds K => match ds with
      | [] => K
      | _ :: _ => False)
    (fun d2 _ ih ds K => match ds with
      | [] => False
      | d :: ds => f d2 d (ih ds K)) l
theorem wkLgR_eq (f : D → D → Prop → Prop) : ∀ (l ds : List D) (K : Prop), wkLgR f l ds K = wkLg f l ds K := by
  intro l
  induction l with
  | nil => intro ds K; cases ds <;> rfl
  | cons d2 l ih =>
    intro ds K
    cases ds with
    | nil => rfl
    | cons d ds => show f d2 d (wkLgR f l ds K) = _; rw [ih]; rfl
noncomputable def wkTR (f : D → D → Prop → Prop) (σ : List (Option Nat)) (d2 d : D) (K : Prop) : Prop :=
  match d2 with
  | .agg ds2 => match d with
    | .agg ds => wkLgR f ds2 ds K
    | _ => False
  | .tup ds2 => match d with
    | .tup ds => wkLgR f ds2 ds K
    | _ => False
  | .fn f2 fs2 cs2 => match d with
    | .fn f1 fs cs => f1 = f2 ∧ wkLgR f fs2 fs (wkLgR f cs2 cs K)
    | _ => False
  | d2 => wk1 σ d2 d K
theorem wkTR_eq {f g : D → D → Prop → Prop} (h : f = g) (σ : List (Option Nat)) : wkTR f σ = wkT g σ := by
  subst h
  funext d2 d K
  cases d2 <;> cases d <;> simp only [wkTR, wkT, wkLgR_eq]
noncomputable def wkDR (σ : List (Option Nat)) (d2 d : D) (K : Prop) : Prop := wkTR (wkTR (wkTR (wk1 σ) σ) σ) σ d2 d K
theorem wkDR_eq (σ : List (Option Nat)) : wkDR σ = wkD σ := by
  funext d2 d K
  show wkTR (wkTR (wkTR (wk1 σ) σ) σ) σ d2 d K = wkT (wkT (wkT (wk1 σ) σ) σ) σ d2 d K
  rw [wkTR_eq (wkTR_eq (wkTR_eq rfl σ) σ) σ]
noncomputable def wkLR (σ : List (Option Nat)) (l : List D) : List D → Prop → Prop := wkLgR (wkDR σ) l
theorem wkL_eq (σ : List (Option Nat)) : ∀ (l ds : List D) (K : Prop), wkLg (wkD σ) l ds K = wkL σ l ds K
  | [], [], K => rfl
  | [], _ :: _, K => rfl
  | _ :: _, [], K => rfl
  | d2 :: l, d :: ds, K => by
    show wkD σ d2 d (wkLg (wkD σ) l ds K) = wkD σ d2 d (wkL σ l ds K)
    rw [wkL_eq σ l ds K]
theorem wkLR_eq (σ : List (Option Nat)) (l ds : List D) (K : Prop) : wkLR σ l ds K = wkL σ l ds K := by
  unfold wkLR
  rw [wkLgR_eq, wkDR_eq, wkL_eq]
noncomputable def wkRootsR (σ : List (Option Nat)) (rt : List (Option Root)) (l : List (Option Nat)) : List (Option Root) → Prop → Prop :=
  List.rec (motive := fun _ => List (Option Root) → Prop → Prop) (fun xs K => match xs with
      | [] => K
      | _ :: _ => False)
    (fun s _ ih xs K => match xs with
      | [] => False
      | x2 :: xs => match s with
        | some r => match x2 with
          | some ⟨true, sz, cs⟩ => match rt[r]? with
            | some (some ⟨true, sz', cs'⟩) => chk (Nat.beq sz' sz) (wkLR σ cs cs' (ih xs K))
            | _ => False
          | some ⟨false, sz, cs⟩ => match rt[r]? with
            | some (some ⟨false, sz', cs'⟩) => chk (Nat.beq sz' sz) (cs' = cs ∧ ih xs K)
            | _ => False
          | none => False
        | none => match x2 with
          | some ⟨false, _, []⟩ => ih xs K
          | none => ih xs K
          | _ => False) l
theorem wkRootsR_eq (σ : List (Option Nat)) (rt : List (Option Root)) : ∀ (l : List (Option Nat)) (xs : List (Option Root)) (K : Prop), wkRootsR σ rt l xs K = wkRoots σ rt l xs K := by
  intro l
  induction l with
  | nil => intro xs K; cases xs <;> simp only [wkRoots] <;> rfl
  | cons s l ih =>
    intro xs K
    cases xs with
    | nil => simp only [wkRoots]; rfl
    | cons x2 xs =>
      have e : wkRootsR σ rt (s :: l) (x2 :: xs) K = (match s with
        | some r => match x2 with
          | some ⟨true, sz, cs⟩ => match rt[r]? with
            | some (some ⟨true, sz', cs'⟩) => chk (Nat.beq sz' sz) (wkLR σ cs cs' (wkRootsR σ rt l xs K))
            | _ => False
          | some ⟨false, sz, cs⟩ => match rt[r]? with
            | some (some ⟨false, sz', cs'⟩) => chk (Nat.beq sz' sz) (cs' = cs ∧ wkRootsR σ rt l xs K)
            | _ => False
          | none => False
        | none => match x2 with
          | some ⟨false, _, []⟩ => wkRootsR σ rt l xs K
          | none => wkRootsR σ rt l xs K
          | _ => False) := rfl
      rw [e, ih]
      cases s with
      | none =>
        cases x2 with
        | none => simp only [wkRoots]
        | some R =>
          obtain ⟨b, sz, cs⟩ := R
          cases b <;> cases cs <;> simp only [wkRoots]
      | some r =>
        cases x2 with
        | none => simp only [wkRoots]
        | some R =>
          obtain ⟨b, sz, cs⟩ := R
          cases b <;> simp only [wkRoots, wkLR_eq] <;> (rcases rt[r]? with _ | _ | ⟨b', sz', cs'⟩ <;> first | rfl | (cases b' <;> rfl))
noncomputable def weakAR (kp : Nat) (st st2 : St) : Prop := forceGc kp st2 fun st2 => forceSg (sigOf kp st st2) fun σ => chk (distinct σ && keepOk σ st2.rt kp) (wkLR σ st2.env st.env (wkRootsR σ st.rt σ st2.rt True))
theorem weakAR_eq (kp : Nat) (st st2 : St) : weakAR kp st st2 = weakA kp st st2 := by
  unfold weakAR weakA weakK
  simp only [wkLR_eq, wkRootsR_eq]
theorem Weak.autoR {kp : Nat} {st st2 : St} (h : weakAR kp st st2) : Weak kp st (gcSt kp st2) := Weak.auto (by rw [← weakAR_eq]; exact h)
theorem WeakS.autoR {kp : Nat} {st st2 : St} (h : weakAR kp st st2) : WeakS kp st (gcSt kp st2) := WeakS.auto (by rw [← weakAR_eq]; exact h)

section
variable {P : Program} {T : Tab} {kp : Nat}
theorem loop_atR (hT : TabOk P T) (hm : P.follows .mixedOrders = true) {body : Code} {Q : Exit → St → Prop} {st : St} {α : Type} (cs : α → List (Nat × D)) (rs : α → List (Nat × Option Root)) (J : α → Prop) (μ : α → Nat) (x0 : α) (h0 : J x0)
    (hw : forceNs (dstsC body) fun ds => WeakS kp st (gcSt kp (mkSt st ds (cs x0) (rs x0))))
    (round : ∀ x, J x → forceNs (dstsC body) fun ds => forceGc kp (mkSt st ds (cs x) (rs x)) (vcR P T kp body (fun e st' => match e with
      | .normal => ∃ y, J y ∧ μ y < μ x ∧ Weak kp st' (gcSt kp (mkSt st ds (cs y) (rs y)))
      | e => Q e st'))) : LoopK P kp body Q st :=
  loop_at hT hm cs rs J μ x0 h0 hw (fun x hx => by rw [← vcR_eq]; exact round x hx)

theorem inl_ofR (hT : TabOk P T) (hm : P.follows .mixedOrders = true) {g : Nat} {fs cs args : List D} {st : St} {K : D → List (Option Root) → Prop} (fn : Func) {c : Code} (h1 : P.funcs[g]? = some fn) (h2 : fn.body = some c) (h3 : (fn.name == "runtime.NumGoroutine") = false)
    (h : vcR P T st.rt.length c (fun e st' => (e = .ret ∨ e = .normal) ∧ resuK T st'.env (rtOf st'.rt) fn.results.toList fun ds => normB (oneD ds) fun d => K d st'.rt)
        ⟨(fs ++ args ++ cs) ++ List.replicate (fn.ntmps - (fs ++ args ++ cs).length) .undef, st.rt⟩) : inlK P T (.fn (.func g) fs cs) args st K :=
  inl_of hT hm fn h1 h2 h3 (by rw [← vcR_eq]; exact h)

theorem pure_of_vcR (hT : TabOk P T) (hmo : P.follows .mixedOrders = true) {f : FuncId} {fn : Func} {c : Code} {args : List D} {rs : D} (hfn : P.funcs[f]? = some fn) (hb : fn.body = some c)
    (hname : (fn.name == "runtime.NumGoroutine") = false)
    (h : vcR P T 0 c (fun e st' => (e = .ret ∨ e = .normal) ∧ resuK T st'.env (rtOf st'.rt) fn.results.toList fun ds => retK (rtOf st'.rt) (oneD ds) fun rs' => rs' = rs)
      ⟨args ++ List.replicate (fn.ntmps - args.length) .undef, []⟩) : PureCall P f args rs :=
  pure_of_vc hT hmo hfn hb hname (by rw [← vcR_eq]; exact h)
end
theorem move_of {T : Tab} {kp : Nat} {o : Oper} {st : St} {t : Nat} {a x : D} {K : St → Prop} {p : Prop} (h : moveK T kp o st t a x K) : p ∨ moveK T kp o st t a x K := .inr h
end Go.Vm
