import Derived.Test.YtghcpginhamelaaGreatVm28
import Derived.Test.YtghcpginhamelaaGreatAlg7
set_option linter.unusedVariables false
set_option linter.unusedSimpArgs false
set_option linter.unusedSectionVars false
namespace Go.Vm
open Go Go.RowKit
def Anx : List D → List D → Prop
 | [], [] => True
 | d2 :: ds2, d :: ds => (d2 = .undef ∨ d2 = d) ∧ Anx ds2 ds
 | _, _ => False
end Go.Vm
namespace Go.Vm
open Go Go.RowKit Go.Fg
def cR (t : List (List Int)) (i j : Nat) (x : Int) : List (List Int) := t.set i ((t.getD i []).set j x)
@[simp] theorem sV (t : List (List Int)) (i j : Nat) (x : Int) : (cR t i j x).length = t.length := by simp [cR]
theorem Aeg (t : List (List Int)) {i : Nat} (h : i < t.length) (f : List D → List D) (l : List Int) (hf : f (ints (t.getD i [])) = ints l) : updB (rows true t) [i] f = rows true (t.set i l) := by
 show (match (rows true t)[i]? with | some (.list true sz cs') => (rows true t).set i (.list true sz (updB cs' [] f)) | _ => rows true t) = _
 rw [mJ h]
 show (rows true t).set i (.list true 1 (f (ints (t.getD i [])))) = _
 rw [hf, Abg]
theorem N7 {t : List (List Int)} {i j : Nat} (x : Int) (h : i < t.length) (h2 : j < (t.getD i []).length) : jG (rows true t) [i] j (aA x) (rows true (cR t i j x)) := by
 refine ⟨_, rL h, by simpa using h2, fun y hy => ?_, ?_⟩
 ·simp only [ints, List.getElem?_map, Option.map_eq_some_iff] at hy
  obtain ⟨a, _, rfl⟩ := hy; rfl
 ·exact Aeg t h _ _ (ints_set _ _ _)
theorem rowLen {m : Int} {n i : Nat} {f : PS (PS (Zm m))} (h : i < n) : ((Tb n f).getD i []).length = n - i := by rw [lO f h]; simp
theorem Ard {t : List (List Int)} {q i k j : Nat} (x : Int) (e : q = i := by exact aN) (e2 : k = j := by exact aN) (h : i < t.length := by exact aF) (h2 : j < (t.getD i []).length := by exact aF) : jG (rows true t) [q] k (aA x) (rows true (cR t i j x)) := by subst e; subst e2; exact N7 x h h2
theorem Aq5 {m : Int} {n q i k j : Nat} {f : PS (PS (Zm m))} (x : Int) (e : q = i := by exact aN) (e2 : k = j := by exact aN) (h : i + j < n := by exact aF) : jG (rows true (Tb n f)) [q] k (aA x) (rows true (cR (Tb n f) i j x)) := by
 subst e; subst e2
 exact N7 x (by simp; omega) (by rw [rowLen (by omega)]; omega)
theorem dX {m : Int} {n i j : Nat} {f g : PS (PS (Zm m))} {x : Int} (v : Zm m) (hx : x = v.val) (h : i < n) (ha : cC n (bT f i j v) g) : cR (Tb n f) i j x = Tb n g := by
 subst hx
 unfold cR
 rw [lO f h, vF, Aof f _ h]
 exact kA ha
theorem bV {o : Bool} {t t' : List (List Int)} (h : t = t') : rows o t = rows o t' := by rw [h]
theorem kW {o : Bool} {t : List (List Int)} {n : Nat} (h : n = t.length) : sub (rows o t) 1 0 n = rows o t := by
 subst h
 simp [sub, rows, List.take_of_length_le]
theorem Ai0 {o : Bool} {t : List (List Int)} {n : Nat} (h : n = t.length := by first | exact aF | (simp; first | done | omega)) : sub (rows o t) 1 0 n = rows o t := kW h
theorem Al6 (d : D) : sub [d] 1 0 1 = [d] := rfl
theorem Ak4 {p : Prop} [KStore p] (h : p := by first | exact Aq5 _ | exact Ard _) : p := h
theorem Ai4 {p : Prop} [KEqL p] (h : p := by first | exact Al6 _ | exact Ai0) : p := h
theorem aK {p : Prop} (h : p := by first | exact Ak4 | exact Ai4) : p := h
theorem zA {p q : Prop} (h : q) (h0 : p := by simp only [aB, aD, aP, sV, Aom, Ap9, aT, aV, Nat.mul_one]; first | done | omega) : p ∧ q := ⟨h0, h⟩
end Go.Vm
namespace Go.Vm
open Go Go.RowKit
noncomputable def lZ (P : Program) (T : Tab) (kp : Nat) (ops : List Oper) (l : List Oper) : St → (St → Prop) → Prop :=
 List.rec (motive := fun _ => St → (St → Prop) → Prop) (fun st K => K st)
  (fun o _ ih st K => match fX ops o st.env with
   | some true => uX P T kp o st (fun st => cJ st fun st => ih st K) (fun d rt => cJ ⟨setSlot st.env o.dst d, rt⟩ fun st => ih st K)
     (tW P T o st (fun d rt => cJ ⟨setSlot st.env o.dst d, rt⟩ fun st => ih st K) (dD P T o st fun d res => cJ (bY st o.dst d res) fun st => ih st K))
   | some false => cJ ⟨setSlot st.env o.dst (.lit Go.undef), st.rt⟩ fun st => ih st K
   | none => False) l
noncomputable def mU (P : Program) (T : Tab) (ops : List Oper) (l : List Oper) : St → (List Ent → List Ent) → (St → Prop) → Prop :=
 List.rec (motive := fun _ => St → (List Ent → List Ent) → (St → Prop) → Prop) (fun st log K => chk (uK ops 0 (log [])) (K st))
  (fun o _ ih st log K => match fX ops o st.env with
   | some true => dD P T o st fun d res => cJ (bY st o.dst d res) fun st' => ih st' (fun l => log ({ dst := o.dst, val := d, res := res, n := st.rt.length } :: l)) K
   | some false => cJ ⟨setSlot st.env o.dst (.lit Go.undef), st.rt⟩ fun st' => ih st' (fun l => log ({ dst := o.dst, val := .lit Go.undef, res := { val := .undef }, n := st.rt.length } :: l)) K
   | none => False) l
theorem V9 (P : Program) (T : Tab) (kp : Nat) (ops : List Oper) : ∀ (l : List Oper), lZ P T kp ops l = iD P T kp ops l := by
 intro l
 induction l with
 | nil => funext st K; simp only [iD]; rfl
 | cons o rest ih =>
  funext st K
  have e : lZ P T kp ops (o :: rest) st K = (match fX ops o st.env with
   | some true => uX P T kp o st (fun st => cJ st fun st => lZ P T kp ops rest st K) (fun d rt => cJ ⟨setSlot st.env o.dst d, rt⟩ fun st => lZ P T kp ops rest st K)
     (tW P T o st (fun d rt => cJ ⟨setSlot st.env o.dst d, rt⟩ fun st => lZ P T kp ops rest st K) (dD P T o st fun d res => cJ (bY st o.dst d res) fun st => lZ P T kp ops rest st K))
   | some false => cJ ⟨setSlot st.env o.dst (.lit Go.undef), st.rt⟩ fun st => lZ P T kp ops rest st K
   | none => False) := rfl
  rw [e, ih]
  simp only [iD]
  rfl
theorem Ait (P : Program) (T : Tab) (ops : List Oper) : ∀ (l : List Oper), mU P T ops l = jH P T ops l := by
 intro l
 induction l with
 | nil => funext st log K; simp only [jH]; rfl
 | cons o rest ih =>
  funext st log K
  have e : mU P T ops (o :: rest) st log K = (match fX ops o st.env with
   | some true => dD P T o st fun d res => cJ (bY st o.dst d res) fun st' => mU P T ops rest st' (fun l => log ({ dst := o.dst, val := d, res := res, n := st.rt.length } :: l)) K
   | some false => cJ ⟨setSlot st.env o.dst (.lit Go.undef), st.rt⟩ fun st' => mU P T ops rest st' (fun l => log ({ dst := o.dst, val := .lit Go.undef, res := { val := .undef }, n := st.rt.length } :: l)) K
   | none => False) := rfl
  rw [e, ih]
  simp only [jH]
  rfl
noncomputable def iH (P : Program) (T : Tab) (kp : Nat) (c : Code) : (Exit → St → Prop) → St → Prop :=
 Code.rec (motive := fun _ => (Exit → St → Prop) → St → Prop)
  (fun Q st => Q .normal st)
  (fun _ ops draw Q st => match draw with
   | false => lZ P T kp ops.toList ops.toList st (Q .normal)
   | true => match zB ops.toList with
    | true => mE P T ops st (Q .normal)
    | false => oM ops = true ∧ match vT T ops.toList with
     | true => yF P T kp ops.toList st (fun st K => mU P T ops.toList ops.toList st (fun l => l) K) (Q .normal)
     | false => match vE T ops.toList with
      | true => pL ops.toList (mU P T ops.toList (oD ops.toList) st (fun l => l) (fun st' => lZ P T kp ops.toList (oB ops.toList) st' (Q .normal))) (mE P T ops st (Q .normal))
      | false => pL ops.toList (mU P T ops.toList ops.toList st (fun l => l) (Q .normal)) (mE P T ops st (Q .normal)))
  (fun _ _ ihx ihy Q st => ihx (fun e st' => match e with
   | .normal => ihy Q st'
   | e => Q e st') st)
  (fun c _ _ ihx ihy Q st => match aM st.env c with
   | .kb true => ihx Q st
   | .kb false => ihy Q st
   | _ => False)
  (fun id _ ih Q st => ih (fun e st' => match e with
   | .exit j => (match Nat.beq j id with
    | true => Q .normal st'
    | false => Q (.exit j) st')
   | e => Q e st') st)
  (fun c _ Q st => cJ st (iR P kp c Q))
  (fun _ _ _ _ _ _ _ _ => False)
  (fun id Q st => Q (.exit id) st)
  (fun _ _ _ _ => False)
  (fun _ Q st => Q .normal st)
  (fun _ _ _ => False)
  (fun Q st => Q .ret st)
  (fun _ _ _ => False) c
theorem rR (P : Program) (T : Tab) (kp : Nat) : ∀ (c : Code), iH P T kp c = vc P T kp c := by
 intro c
 induction c with
 | skip => funext Q st; simp only [vc]; rfl
 | region id ops draw =>
  funext Q st
  cases draw with
  | false => show lZ P T kp ops.toList ops.toList st (Q .normal) = _; simp only [vc, V9]
  | true =>
   show (match zB ops.toList with
    | true => mE P T ops st (Q .normal)
    | false => oM ops = true ∧ match vT T ops.toList with
     | true => yF P T kp ops.toList st (fun st K => mU P T ops.toList ops.toList st (fun l => l) K) (Q .normal)
     | false => match vE T ops.toList with
      | true => pL ops.toList (mU P T ops.toList (oD ops.toList) st (fun l => l) (fun st' => lZ P T kp ops.toList (oB ops.toList) st' (Q .normal))) (mE P T ops st (Q .normal))
      | false => pL ops.toList (mU P T ops.toList ops.toList st (fun l => l) (Q .normal)) (mE P T ops st (Q .normal))) = _
   simp only [vc, Ait, V9]
   cases zB ops.toList
   ·cases vT T ops.toList
    ·cases vE T ops.toList <;> rfl
    ·rfl
   ·rfl
 | seq x y ihx ihy =>
  funext Q st
  show iH P T kp x (fun e st' => match e with
   | .normal => iH P T kp y Q st'
   | e => Q e st') st = _
  rw [ihx, ihy]
  simp only [vc]
  rfl
 | cond c x y ihx ihy =>
  funext Q st
  show (match aM st.env c with
   | .kb true => iH P T kp x Q st
   | .kb false => iH P T kp y Q st
   | _ => False) = _
  rw [ihx, ihy]
  simp only [vc]
  rfl
 | block id c ih =>
  funext Q st
  show iH P T kp c (fun e st' => match e with
   | .exit j => (match Nat.beq j id with
    | true => Q .normal st'
    | false => Q (.exit j) st')
   | e => Q e st') st = _
  rw [ih]
  simp only [vc]
  rfl
 | loop c ih => funext Q st; simp only [vc]; rfl
 | rangeFunc f ps a b iha ihb => funext Q st; simp only [vc]; rfl
 | exit id => funext Q st; simp only [vc]; rfl
 | scope b ih => funext Q st; simp only [vc]; rfl
 | label l => funext Q st; simp only [vc]; rfl
 | goto l => funext Q st; simp only [vc]; rfl
 | ret => funext Q st; simp only [vc]; rfl
 | refuse why => funext Q st; simp only [vc]; rfl
noncomputable def qD (f : D → D → Prop → Prop) (l : List D) : List D → Prop → Prop :=
 List.rec (motive := fun _ => List D → Prop → Prop) (fun ds K => match ds with
   | [] => K
   | _ :: _ => False)
  (fun d2 _ ih ds K => match ds with
   | [] => False
   | d :: ds => f d2 d (ih ds K)) l
theorem Afo (f : D → D → Prop → Prop) : ∀ (l ds : List D) (K : Prop), qD f l ds K = nN f l ds K := by
 intro l
 induction l with
 | nil => intro ds K; cases ds <;> rfl
 | cons d2 l ih =>
  intro ds K
  cases ds with
  | nil => rfl
  | cons d ds => show f d2 d (qD f l ds K) = _; rw [ih]; rfl
noncomputable def pA (f : D → D → Prop → Prop) (σ : List (Option Nat)) (d2 d : D) (K : Prop) : Prop :=
 match d2 with
 | .agg ds2 => match d with
  | .agg ds => qD f ds2 ds K
  | _ => False
 | .tup ds2 => match d with
  | .tup ds => qD f ds2 ds K
  | _ => False
 | .fn f2 fs2 cs2 => match d with
  | .fn f1 fs cs => f1 = f2 ∧ qD f fs2 fs (qD f cs2 cs K)
  | _ => False
 | d2 => pX σ d2 d K
theorem J1 {f g : D → D → Prop → Prop} (h : f = g) (σ : List (Option Nat)) : pA f σ = mP g σ := by
 subst h
 funext d2 d K
 cases d2 <;> cases d <;> simp only [pA, mP, Afo]
noncomputable def Acf (σ : List (Option Nat)) (d2 d : D) (K : Prop) : Prop := pA (pA (pA (pX σ) σ) σ) σ d2 d K
theorem Am3 (σ : List (Option Nat)) : Acf σ = rJ σ := by
 funext d2 d K
 show pA (pA (pA (pX σ) σ) σ) σ d2 d K = mP (mP (mP (pX σ) σ) σ) σ d2 d K
 rw [J1 (J1 (J1 rfl σ) σ) σ]
noncomputable def xE (σ : List (Option Nat)) (l : List D) : List D → Prop → Prop := qD (Acf σ) l
theorem Z4 (σ : List (Option Nat)) : ∀ (l ds : List D) (K : Prop), nN (rJ σ) l ds K = mA σ l ds K
 | [], [], K => rfl
 | [], _ :: _, K => rfl
 | _ :: _, [], K => rfl
 | d2 :: l, d :: ds, K => by
  show rJ σ d2 d (nN (rJ σ) l ds K) = rJ σ d2 d (mA σ l ds K)
  rw [Z4 σ l ds K]
theorem Adk (σ : List (Option Nat)) (l ds : List D) (K : Prop) : xE σ l ds K = mA σ l ds K := by
 unfold xE
 rw [Afo, Am3, Z4]
noncomputable def qQ (σ : List (Option Nat)) (rt : List (Option Root)) (l : List (Option Nat)) : List (Option Root) → Prop → Prop :=
 List.rec (motive := fun _ => List (Option Root) → Prop → Prop) (fun xs K => match xs with
   | [] => K
   | _ :: _ => False)
  (fun s _ ih xs K => match xs with
   | [] => False
   | x2 :: xs => match s with
    | some r => match x2 with
     | some ⟨true, sz, cs⟩ => match rt[r]? with
      | some (some ⟨true, sz', cs'⟩) => chk (Nat.beq sz' sz) (xE σ cs cs' (ih xs K))
      | _ => False
     | some ⟨false, sz, cs⟩ => match rt[r]? with
      | some (some ⟨false, sz', cs'⟩) => chk (Nat.beq sz' sz) (cs' = cs ∧ ih xs K)
      | _ => False
     | none => False
    | none => match x2 with
     | some ⟨false, _, []⟩ => ih xs K
     | none => ih xs K
     | _ => False) l
theorem Ak6 (σ : List (Option Nat)) (rt : List (Option Root)) : ∀ (l : List (Option Nat)) (xs : List (Option Root)) (K : Prop), qQ σ rt l xs K = fM σ rt l xs K := by
 intro l
 induction l with
 | nil => intro xs K; cases xs <;> simp only [fM] <;> rfl
 | cons s l ih =>
  intro xs K
  cases xs with
  | nil => simp only [fM]; rfl
  | cons x2 xs =>
   have e : qQ σ rt (s :: l) (x2 :: xs) K = (match s with
    | some r => match x2 with
     | some ⟨true, sz, cs⟩ => match rt[r]? with
      | some (some ⟨true, sz', cs'⟩) => chk (Nat.beq sz' sz) (xE σ cs cs' (qQ σ rt l xs K))
      | _ => False
     | some ⟨false, sz, cs⟩ => match rt[r]? with
      | some (some ⟨false, sz', cs'⟩) => chk (Nat.beq sz' sz) (cs' = cs ∧ qQ σ rt l xs K)
      | _ => False
     | none => False
    | none => match x2 with
     | some ⟨false, _, []⟩ => qQ σ rt l xs K
     | none => qQ σ rt l xs K
     | _ => False) := rfl
   rw [e, ih]
   cases s with
   | none =>
    cases x2 with
    | none => simp only [fM]
    | some R =>
     obtain ⟨b, sz, cs⟩ := R
     cases b <;> cases cs <;> simp only [fM]
   | some r =>
    cases x2 with
    | none => simp only [fM]
    | some R =>
     obtain ⟨b, sz, cs⟩ := R
     cases b <;> simp only [fM, Adk] <;> (rcases rt[r]? with _ | _ | ⟨b', sz', cs'⟩ <;> first | rfl | (cases b' <;> rfl))
noncomputable def yA (kp : Nat) (st st2 : St) : Prop := rY kp st2 fun st2 => qR (R9 kp st st2) fun σ => chk (distinct σ && vI σ st2.rt kp) (xE σ st2.env st.env (qQ σ st.rt σ st2.rt True))
theorem Ael (kp : Nat) (st st2 : St) : yA kp st st2 = vD kp st st2 := by
 unfold yA vD B0
 simp only [Adk, Ak6]
theorem aC.autoR {kp : Nat} {st st2 : St} (h : yA kp st st2) : aC kp st (iB kp st2) := aC.auto (by rw [← Ael]; exact h)
theorem aG.autoR {kp : Nat} {st st2 : St} (h : yA kp st st2) : aG kp st (iB kp st2) := aG.auto (by rw [← Ael]; exact h)
section
variable {P : Program} {T : Tab} {kp : Nat}
theorem aR (hT : TabOk P T) (hm : P.follows .mixedOrders = true) {body : Code} {Q : Exit → St → Prop} {st : St} {α : Type} (cs : α → List (Nat × D)) (rs : α → List (Nat × Option Root)) (J : α → Prop) (μ : α → Nat) (x0 : α) (h0 : J x0)
  (hw : nD (iJ body) fun ds => aG kp st (iB kp (lH st ds (cs x0) (rs x0))))
  (round : ∀ x, J x → nD (iJ body) fun ds => rY kp (lH st ds (cs x) (rs x)) (iH P T kp body (fun e st' => match e with
   | .normal => ∃ y, J y ∧ μ y < μ x ∧ aC kp st' (iB kp (lH st ds (cs y) (rs y)))
   | e => Q e st'))) : iR P kp body Q st :=
 dZ hT hm cs rs J μ x0 h0 hw (fun x hx => by rw [← rR]; exact round x hx)
theorem gN (hT : TabOk P T) (hm : P.follows .mixedOrders = true) {g : Nat} {fs cs args : List D} {st : St} {K : D → List (Option Root) → Prop} (fn : Func) {c : Code} (h1 : P.funcs[g]? = some fn) (h2 : fn.body = some c) (h3 : (fn.name == "runtime.NumGoroutine") = false)
  (h : iH P T st.rt.length c (fun e st' => (e = .ret ∨ e = .normal) ∧ kV T st'.env (aQ st'.rt) fn.results.toList fun ds => iS (iK ds) fun d => K d st'.rt)
    ⟨(fs ++ args ++ cs) ++ List.replicate (fn.ntmps - (fs ++ args ++ cs).length) .undef, st.rt⟩) : vN P T (.fn (.func g) fs cs) args st K :=
 Aqn hT hm fn h1 h2 h3 (by rw [← rR]; exact h)
theorem aX (hT : TabOk P T) (hmo : P.follows .mixedOrders = true) {f : FuncId} {fn : Func} {c : Code} {args : List D} {rs : D} (hfn : P.funcs[f]? = some fn) (hb : fn.body = some c)
  (hname : (fn.name == "runtime.NumGoroutine") = false)
  (h : iH P T 0 c (fun e st' => (e = .ret ∨ e = .normal) ∧ kV T st'.env (aQ st'.rt) fn.results.toList fun ds => qY (aQ st'.rt) (iK ds) fun rs' => rs' = rs)
   ⟨args ++ List.replicate (fn.ntmps - args.length) .undef, []⟩) : aL P f args rs :=
 cF hT hmo hfn hb hname (by rw [← rR]; exact h)
end
theorem Akj {T : Tab} {kp : Nat} {o : Oper} {st : St} {t : Nat} {a x : D} {K : St → Prop} {p : Prop} (h : wC T kp o st t a x K) : p ∨ wC T kp o st t a x K := .inr h
end Go.Vm
namespace Go.Vm
open Go Go.RowKit
section
variable {P : Program} {T : Tab}
theorem eR (hT : TabOk P T) (hm : P.follows .mixedOrders = true) {g : Nat} (kp : Nat) {args : List D} {rt : List (Option Root)} {K : D → List (Option Root) → Prop} (fn : Func) {c : Code} (h1 : P.funcs[g]? = some fn) (h2 : fn.body = some c) (h3 : (fn.name == "runtime.NumGoroutine") = false)
  (h : iH P T kp c (fun e st' => (e = .ret ∨ e = .normal) ∧ kV T st'.env (aQ st'.rt) fn.results.toList fun ds => iS (iK ds) fun d => ∃ d2 rt2, K d2 rt2 ∧ aC kp ⟨[d], st'.rt⟩ ⟨[d2], rt2⟩)
    ⟨args ++ List.replicate (fn.ntmps - args.length) .undef, rt⟩) : cM P g kp args rt K := by
 refine ⟨fn, c, h1, h2, h3, fun w0 env tm w own vals hs hb1 hb2 hb3 hsz hargs => ?_⟩
 have hsvc := uI hT hm _ _ _ (by rw [← rR]; exact h)
 let sus : D → Value → Prop := fun d v => w0.susp d v ∨ ∃ i, d = env i ∧ v = tm i
 have hbel : ∀ d v, sus d v → BelowD kp d := fun d v hp => by
  rcases hp with h | ⟨i, rfl, rfl⟩
  ·exact hb2 d v h
  ·exact hb1 i
 let w1 : Base := { toWorld := w0.toWorld, prot := w0.prot, hp := w0.hp, hid := w0.hid, hh := w0.hh, hl := w0.hl, susp := sus, keep := kp, hk := hbel, hlk := hb3 }
 let a1 : Act := { tmps := vals ++ Array.replicate (fn.ntmps - vals.size) Go.undef, defers := [] }
 have hfit : Fits w1 ⟨args ++ List.replicate (fn.ntmps - args.length) .undef, rt⟩ a1 w := by
  refine ⟨own, rfl, by simp [a1, hsz], ⟨hs.below, fun i => ?_, hs.roots, hs.lab, fun b hb => hs.hidl b hb, hs.inj, fun d v hp => ?_⟩⟩
  ·show Mt w (okb w own) own (aQ rt) ((args ++ List.replicate (fn.ntmps - args.length) D.undef).getD i D.undef) (a1.tmps.getD i Go.undef)
   rw [List.getD_eq_getElem?_getD]
   by_cases hi : i < args.length
   ·rw [List.getElem?_append_left hi, List.getElem?_eq_getElem hi, Option.getD_some]
    have hi2 : i < vals.size := by rw [hsz]; exact hi
    have e1 : a1.tmps.getD i Go.undef = vals[i] := by
     simp only [a1, Array.getD_eq_getD_getElem?]
     rw [Array.getElem?_append_left hi2, Array.getElem?_eq_getElem hi2]; rfl
    rw [e1]
    exact hargs i _ _ (List.getElem?_eq_getElem hi) (Array.getElem?_eq_getElem hi2)
   ·rw [List.getElem?_append_right (by omega), List.getElem?_replicate]
    split <;> exact .undef _
  ·rcases hp with h | ⟨i, rfl, rfl⟩
   ·exact hs.susp d v h
   ·exact hs.env i
 refine wp_mono (hsvc w1 a1 w rfl hfit) (fun e a' w' hpost => ?_)
 obtain ⟨st', ⟨own', hd', hl', hs'⟩, he, hres⟩ := hpost
 obtain ⟨d, v, ⟨d2, rt2, hk, hw⟩, hmd, hrv⟩ := Afc hT hs' fn hres
 have hf1 : Fits w1 ⟨[d], st'.rt⟩ { tmps := #[v], defers := [] } w' := by
  refine ⟨own', rfl, rfl, ⟨hs'.below, fun i => ?_, hs'.roots, hs'.lab, hs'.hidl, hs'.inj, hs'.susp⟩⟩
  cases i with
  | zero => exact hmd
  | succ i => exact .undef _
 obtain ⟨fA, _, _, hs2⟩ := hw w1 _ w' rfl hf1
 refine ⟨he, hd', v, d2, rt2, fA, hrv, hk, ⟨hs2.below, fun i => hs2.susp (env i) (tm i) (.inr ⟨i, rfl, rfl⟩), hs2.roots, hs2.lab, hs2.hidl, hs2.inj, fun d v hp => hs2.susp d v (.inl hp)⟩, hs2.env 0⟩
end
end Go.Vm
namespace Go.Vm
open Go Go.RowKit
def ren1 (ρ : Nat → Nat) (d : D) : D := match d with
 | .ref r p sz off n => (match r with
  | 0 => .undef
  | r + 1 => .ref (ρ (r + 1)) p sz off n)
 | .ptr r p off => (match r with
  | 0 => .undef
  | r + 1 => .ptr (ρ (r + 1)) p off)
 | .agg _ => .undef
 | .tup _ => .undef
 | .fn _ _ _ => .undef
 | d => d
def renT (ρ : Nat → Nat) (f : D → D) (d : D) : D := match d with
 | .agg ds => .agg (ds.map f)
 | .tup ds => .tup (ds.map f)
 | .fn g fs cs => .fn g (fs.map f) (cs.map f)
 | d => ren1 ρ d
def renD (ρ : Nat → Nat) (d : D) : D := renT ρ (renT ρ (renT ρ (ren1 ρ))) d
def renR (ρ : Nat → Nat) (x : Option Root) : Option Root := match x with
 | none => none
 | some ⟨true, sz, cs⟩ => some ⟨true, sz, cs.map (renD ρ)⟩
 | some ⟨false, sz, cs⟩ => some ⟨false, sz, cs⟩
structure RenOk (ρ : Nat → Nat) (w : World) (own ow2 : Nat → Option Lab) (rt rt2 : RT) : Prop where
 ok : ∀ b, okb w own b → okb w ow2 b
 ne : ∀ k, k ≠ 0 → rt k ≠ none → rt2 (ρ k) ≠ none
 live : ∀ k R', k ≠ 0 → rt k ≠ none → rt2 (ρ k) = some (some R') → ∃ R, rt k = some (some R) ∧ R.box = R'.box ∧ (R.box = false → R'.cs = R.cs) ∧ ∀ b p, ow2 b = some (ρ k, p) ↔ own b = some (k, p)
section
variable {ρ : Nat → Nat} {w : World} {own ow2 : Nat → Option Lab} {rt rt2 : RT}
theorem RenOk.path (h : RenOk ρ w own ow2 rt rt2) {R R' : Root} {p : List Nat} (hb : R.box = R'.box) (hc : R.box = false → R'.cs = R.cs) (hp : Vp R p) : Vp R' p := by
 rcases hp with e | ⟨h1, h2⟩
 ·exact .inl e
 ·exact .inr ⟨by rw [← hb]; exact h1, by rw [hc h1]; exact h2⟩
theorem Mt.ren1 (hr : RenOk ρ w own ow2 rt rt2) {d : D} {v : Value} (h : Mt w (okb w own) own rt d v) : Mt w (okb w ow2) ow2 rt2 (ren1 ρ d) v := by
 have hsh : ∀ {d v}, Sh w (okb w own) d v → Mt w (okb w ow2) ow2 rt2 d v := fun h => .sh _ _ (h.frame (fun b hb => ⟨hr.ok b hb, rfl⟩))
 cases h with
 | undef v => exact .undef v
 | sh d v h =>
  cases d with
  | ref => cases h
  | ptr => cases h
  | agg => exact .undef _
  | tup => exact .undef _
  | fn => exact .undef _
  | undef => exact .undef _
  | kb b => exact hsh h
  | lit u => exact hsh h
  | list o sz cs => exact hsh h
  | cptr cs off => exact hsh h
  | full sz cs => exact hsh h
 | ref r p sz off n v h0 h1 h =>
  cases r with
  | zero => exact .undef _
  | succ r =>
   refine .ref _ _ _ _ _ _ (hr.ne _ (by omega) h0) h1 (fun R' hR' => ?_)
   obtain ⟨R, hR, hb, hc, hl⟩ := hr.live (r + 1) R' (by omega) h0 hR'
   obtain ⟨hp, h⟩ := h R hR
   refine ⟨hr.path hb hc hp, ?_⟩
   rcases h with ⟨b, arr, e, cap, o, hb, hw, hv, hnc, hcs, ho⟩ | ⟨hv, ho, hn, hb⟩
   ·exact .inl ⟨b, arr, e, cap, o, (hl b p).2 hb, hw, hv, hnc, hcs, ho⟩
   ·exact .inr ⟨hv, ho, hn, fun b hb' => hb b ((hl b p).1 hb')⟩
 | ptr r p off v h0 h1 h =>
  cases r with
  | zero => exact .undef _
  | succ r =>
   refine .ptr _ _ _ _ (hr.ne _ (by omega) h0) h1 (fun R' hR' => ?_)
   obtain ⟨R, hR, hb, hc, hl⟩ := hr.live (r + 1) R' (by omega) h0 hR'
   obtain ⟨hp, b, arr, e, hb', hw, hv⟩ := h R hR
   exact ⟨hr.path hb hc hp, b, arr, e, (hl b p).2 hb', hw, hv⟩
 | agg ds vs hl h => exact .undef _
 | tup ds vs hl h => exact .undef _
 | fn f fs cs first caps h1 h2 hf h => exact .undef _
theorem Mt.renT (hr : RenOk ρ w own ow2 rt rt2) {f : D → D} (hf : ∀ d v, Mt w (okb w own) own rt d v → Mt w (okb w ow2) ow2 rt2 (f d) v) {d : D} {v : Value} (h : Mt w (okb w own) own rt d v) : Mt w (okb w ow2) ow2 rt2 (renT ρ f d) v := by
 have many : ∀ (ds : List D) (vs : Array Value), (∀ (i : Nat) d v, ds[i]? = some d → vs[i]? = some v → Mt w (okb w own) own rt d v) → ∀ (i : Nat) d v, (ds.map f)[i]? = some d → vs[i]? = some v → Mt w (okb w ow2) ow2 rt2 d v := by
  intro ds vs h i d v h1 h2
  rw [List.getElem?_map, Option.map_eq_some_iff] at h1
  obtain ⟨d0, h3, rfl⟩ := h1
  exact hf _ _ (h i d0 v h3 h2)
 unfold Go.Vm.renT
 split
 ·rename_i ds
  obtain ⟨vs, hv, hl, hr'⟩ := h.agg_inv
  subst hv
  exact .agg _ _ (by rw [hl, List.length_map]) (many ds vs hr')
 ·rename_i ds
  obtain ⟨vs, hv, hl, hr'⟩ := h.tup_inv
  subst hv
  exact .tup _ _ (by rw [hl, List.length_map]) (many ds vs hr')
 ·rename_i g fs cs
  obtain ⟨first, caps, hv, hl1, hl2, hr1, hr2⟩ := h.fn_inv
  subst hv
  exact .fn _ _ _ _ _ (by rw [hl1, List.length_map]) (by rw [hl2, List.length_map]) (many fs first hr1) (many cs caps hr2)
 ·exact h.ren1 hr
theorem Mt.renD (hr : RenOk ρ w own ow2 rt rt2) {d : D} {v : Value} (h : Mt w (okb w own) own rt d v) : Mt w (okb w ow2) ow2 rt2 (Go.Vm.renD ρ d) v :=
 h.renT hr (fun d v h => h.renT hr (fun d v h => h.renT hr (fun d v h => h.ren1 hr)))
theorem kE.ren (hr : RenOk ρ w own ow2 rt rt2) {k : Nat} {R R' : Root} (hk : k ≠ 0) (hR : rt k = some (some R)) (hx : Go.Vm.renR ρ (some R) = some R') (hR' : rt2 (ρ k) = some (some R'))
  (h : kE w (okb w own) own rt k R) : kE w (okb w ow2) ow2 rt2 (ρ k) R' := by
 obtain ⟨R0, hR0, hb, hc, hl⟩ := hr.live k R' hk (by rw [hR]; simp) hR'
 rw [hR] at hR0
 simp only [Option.some.injEq] at hR0
 subst hR0
 rcases h with ⟨b, arr, e, h1, h2, h3, h4⟩ | ⟨h1, h2, h3⟩
 ·obtain ⟨bx, sz, cs⟩ := R
  cases bx with
  | true =>
   simp only [Go.Vm.renR, Option.some.injEq] at hx
   subst hx
   refine .inl ⟨b, arr, e, (hl b []).2 h1, h2, by simpa using h3, fun i d v hi hv => ?_⟩
   simp only at hi
   rw [List.getElem?_map, Option.map_eq_some_iff] at hi
   obtain ⟨d0, h5, rfl⟩ := hi
   have := h4 i d0 v h5 hv
   unfold bX at this ⊢
   rw [if_pos rfl] at this ⊢
   exact this.renD hr
  | false =>
   simp only [Go.Vm.renR, Option.some.injEq] at hx
   subst hx
   refine .inl ⟨b, arr, e, (hl b []).2 h1, h2, h3, fun i d v hi hv => ?_⟩
   have := h4 i d v hi hv
   unfold bX at this ⊢
   rw [if_neg (by simp)] at this ⊢
   exact this.relab (ρ k, [i]) (fun b hb => ⟨hr.ok b hb, rfl⟩) (fun b q hq => ⟨(hl b _).2 hq, rfl⟩) (fun b q hq => (hl b _).1 hq)
 ·obtain ⟨bx, sz, cs⟩ := R
  simp only at h1 h2
  subst h1
  simp only [Go.Vm.renR, Option.some.injEq] at hx
  subst hx
  exact .inr ⟨rfl, h2, fun b hb => h3 b ((hl b []).1 hb)⟩
end
end Go.Vm
namespace Go.Vm
open Go Go.RowKit
def cP (σ : List Nat) : List (Option Nat) := none :: σ.map some
theorem qT (σ : List Nat) : (cP σ)[0]? = some none := rfl
theorem P3 (σ : List Nat) (k : Nat) : (cP σ)[k + 1]? = (σ[k]?).map some := by simp [cP]
theorem Ajm {σ : List Nat} {k r : Nat} (h : (cP σ)[k]? = some (some r)) : ∃ j, k = j + 1 ∧ σ[j]? = some r := by
 cases k with
 | zero => rw [qT] at h; cases h
 | succ j =>
  rw [P3, Option.map_eq_some_iff] at h
  obtain ⟨r', h1, h2⟩ := h
  cases h2
  exact ⟨j, rfl, h1⟩
theorem mW {σ : List Nat} {j r : Nat} (h : σ[j]? = some r) : (cP σ)[j + 1]? = some (some r) := by rw [P3, h]; rfl
def dS (σ : List Nat) (kp n k : Nat) : Nat := match Nat.blt k kp with
 | true => σ.getD (k - 1) 0
 | false => n + (k - kp)
def lC : List Nat → List (Option Root) → List (Option Root) → List (Option Root)
 | r :: σ, x :: xs, l => lC σ xs (l.set r x)
 | _, _, l => l
def rK : List Nat → List (Option Root) → List (Option Root)
 | [], _ => []
 | _ :: σ, [] => none :: rK σ []
 | _ :: σ, x :: xs => x :: rK σ xs
def eH (σ : List Nat) (kp : Nat) (rtB rt : List (Option Root)) : List (Option Root) :=
 lC σ (rK σ (((rt.drop 1).take (kp - 1)).map (renR (dS σ kp rtB.length)))) rtB ++ (rt.drop kp).map (renR (dS σ kp rtB.length))
theorem yC : ∀ (σ : List Nat) (xs : List (Option Root)) (k : Nat), k < σ.length → (rK σ xs)[k]? = some ((xs[k]?).getD none)
 | [], _, k, h => by simp at h
 | _ :: σ, [], 0, _ => rfl
 | _ :: σ, [], k + 1, h => by
  rw [rK, List.getElem?_cons_succ, yC σ [] k (by simpa using h)]; simp
 | _ :: σ, x :: xs, 0, _ => rfl
 | _ :: σ, x :: xs, k + 1, h => by
  rw [rK, List.getElem?_cons_succ, yC σ xs k (by simpa using h), List.getElem?_cons_succ]
theorem qZ : ∀ (σ : List Nat) (xs l : List (Option Root)), (lC σ xs l).length = l.length
 | r :: σ, x :: xs, l => by rw [lC, qZ σ xs, List.length_set]
 | [], _, _ => by unfold lC; rfl
 | _ :: _, [], _ => rfl
theorem L8 : ∀ (σ : List Nat) (xs l : List (Option Root)) (r : Nat), (∀ k : Nat, σ[k]? ≠ some r) → (lC σ xs l)[r]? = l[r]?
 | s :: σ, x :: xs, l, r, h => by
  rw [lC, L8 σ xs _ r (fun k => by simpa using h (k + 1)), List.getElem?_set_ne (fun e => h 0 (by simp [e]))]
 | [], _, _, _, _ => by unfold lC; rfl
 | _ :: _, [], _, _, _ => rfl
theorem P2 : ∀ (σ : List Nat) (xs l : List (Option Root)) (k r : Nat) (x : Option Root), (∀ i j r : Nat, σ[i]? = some r → σ[j]? = some r → i = j) → σ[k]? = some r → xs[k]? = some x → r < l.length → (lC σ xs l)[r]? = some x
 | s :: σ, y :: xs, l, 0, r, x, hi, h1, h2, h3 => by
  simp only [List.getElem?_cons_zero, Option.some.injEq] at h1 h2
  subst h1; subst h2
  rw [lC, L8 σ xs _ s (fun k hk => by have := hi 0 (k + 1) s rfl (by simpa using hk); omega), List.getElem?_set_self h3]
 | s :: σ, y :: xs, l, k + 1, r, x, hi, h1, h2, h3 => by
  rw [lC]
  exact P2 σ xs _ k r x (fun i j r h h' => by have := hi (i + 1) (j + 1) r (by simpa using h) (by simpa using h'); omega) (by simpa using h1) (by simpa using h2) (by simpa using h3)
 | [], _, _, _, _, _, _, h1, _, _ => by simp at h1
 | _ :: _, [], _, _, _, _, _, _, h2, _ => by simp at h2
section
variable {σ : List Nat} {kp : Nat} {rtB rt : List (Option Root)}
theorem vV {n k : Nat} (hk : k ≠ 0) (h : k < kp) (hkp : kp ≤ σ.length + 1) : ∃ j, k = j + 1 ∧ σ[j]? = some (dS σ kp n k) := by
 refine ⟨k - 1, by omega, ?_⟩
 unfold dS
 rw [show Nat.blt k kp = true by rw [Nat.blt_eq]; exact h]
 simp only
 have : k - 1 < σ.length := by omega
 rw [List.getD_eq_getElem?_getD, List.getElem?_eq_getElem this]; rfl
theorem P4 {n k : Nat} (h : kp ≤ k) : dS σ kp n k = n + (k - kp) := by
 unfold dS
 have : Nat.blt k kp = false := by
  cases hb : Nat.blt k kp with
  | false => rfl
  | true => rw [Nat.blt_eq] at hb; omega
 rw [this]
theorem Ajs (hi : ∀ i j r : Nat, σ[i]? = some r → σ[j]? = some r → i = j) (hlt : ∀ i r : Nat, σ[i]? = some r → r < rtB.length) (hkp : kp ≤ σ.length + 1) {k : Nat} {x : Option Root} (hk : k ≠ 0) (h : rt[k]? = some x) :
  (eH σ kp rtB rt)[dS σ kp rtB.length k]? = some (renR (dS σ kp rtB.length) x) := by
 unfold eH
 rcases Nat.lt_or_ge k kp with hlk | hge
 ·obtain ⟨j, rfl, hs⟩ := vV (σ := σ) (n := rtB.length) hk hlk hkp
  have hx : (rK σ (((rt.drop 1).take (kp - 1)).map (renR (dS σ kp rtB.length))))[j]? = some (renR (dS σ kp rtB.length) x) := by
   rw [yC σ _ j (tX hs), List.getElem?_map, List.getElem?_take_of_lt (by omega), List.getElem?_drop, show 1 + j = j + 1 by omega, h]; rfl
  rw [List.getElem?_append_left (by rw [qZ]; exact hlt j _ hs)]
  exact P2 σ _ rtB j _ _ hi hs hx (hlt j _ hs)
 ·rw [P4 hge, List.getElem?_append_right (by rw [qZ]; omega), qZ, List.getElem?_map, List.getElem?_drop, show kp + (rtB.length + (k - kp) - rtB.length) = k by omega, h]
  rfl
theorem Afs {r : Nat} (hr : r < rtB.length) (h : ∀ k : Nat, σ[k]? ≠ some r) : (eH σ kp rtB rt)[r]? = rtB[r]? := by
 unfold eH
 rw [List.getElem?_append_left (by rw [qZ]; exact hr), L8 σ _ _ r h]
theorem K1 (hi : ∀ i j r : Nat, σ[i]? = some r → σ[j]? = some r → i = j) (hlt : ∀ i r : Nat, σ[i]? = some r → r < rtB.length) {j r : Nat} (hj : σ[j]? = some r) (hk : kp ≤ j + 1) : (eH σ kp rtB rt)[r]? = some none := by
 unfold eH
 rw [List.getElem?_append_left (by rw [qZ]; exact hlt j _ hj)]
 refine P2 σ _ rtB j r none hi hj ?_ (hlt j r hj)
 rw [yC σ _ j (tX hj), List.getElem?_map, List.getElem?_eq_none (by rw [List.length_take]; omega)]; rfl
theorem sI (hkp : kp ≤ σ.length + 1) (k : Nat) (hk : k ≠ 0) : (∃ j, k = j + 1 ∧ k < kp ∧ σ[j]? = some (dS σ kp rtB.length k)) ∨ (kp ≤ k ∧ dS σ kp rtB.length k = rtB.length + (k - kp)) := by
 rcases Nat.lt_or_ge k kp with hlk | hge
 ·obtain ⟨j, e, h⟩ := vV (σ := σ) (n := rtB.length) hk hlk hkp
  exact .inl ⟨j, e, hlk, h⟩
 ·exact .inr ⟨hge, P4 hge⟩
theorem Adz (hi : ∀ i j r : Nat, σ[i]? = some r → σ[j]? = some r → i = j) (hlt : ∀ i r : Nat, σ[i]? = some r → r < rtB.length) (hkp : kp ≤ σ.length + 1) {k k' : Nat} (hk : k ≠ 0) (hk' : k' ≠ 0) (h : dS σ kp rtB.length k = dS σ kp rtB.length k') : k = k' := by
 rcases sI (σ := σ) (rtB := rtB) hkp k hk with ⟨j, e, _, h1⟩ | ⟨h1, h2⟩ <;> rcases sI (σ := σ) (rtB := rtB) hkp k' hk' with ⟨j', e', _, h1'⟩ | ⟨h1', h2'⟩
 ·have := hi j j' _ h1 (by rw [h]; exact h1'); omega
 ·have := hlt j _ h1; omega
 ·have := hlt j' _ h1'; omega
 ·omega
end
def gG (own : Nat → Option Lab) (ss : List (Option Nat)) : Nat → Option Lab := fun b => match own b with
 | some (r, p) => match gV ss r with
  | some k => some (k, p)
  | none => some (0, [b])
 | none => none
theorem oS {own : Nat → Option Lab} {ss : List (Option Nat)} {b q : Nat} {p : List Nat} (h : gG own ss b = some (q, p)) :
  (∃ r, ss[q]? = some (some r) ∧ own b = some (r, p)) ∨ (q = 0 ∧ p = [b] ∧ ∃ r p0, own b = some (r, p0) ∧ gV ss r = none) := by
 unfold gG at h
 split at h
 ·rename_i r p0 ho
  split at h
  ·rename_i k hk
   simp only [Option.some.injEq, Prod.mk.injEq] at h
   obtain ⟨rfl, rfl⟩ := h
   exact .inl ⟨r, tK _ _ _ hk, ho⟩
  ·rename_i hk
   simp only [Option.some.injEq, Prod.mk.injEq] at h
   obtain ⟨rfl, rfl⟩ := h
   exact .inr ⟨rfl, rfl, r, p0, ho, hk⟩
 ·cases h
theorem I1 {own : Nat → Option Lab} {ss : List (Option Nat)} {b : Nat} : gG own ss b = none ↔ own b = none := by
 unfold gG
 cases h : own b with
 | none => simp
 | some l =>
  obtain ⟨r, p⟩ := l
  simp only
  cases gV ss r <;> simp
theorem Amg {own : Nat → Option Lab} {σ : List Nat} (hd : distinct (cP σ) = true) {k r : Nat} (hk : (cP σ)[k]? = some (some r)) (b : Nat) (p : List Nat) : gG own (cP σ) b = some (k, p) ↔ own b = some (r, p) := by
 constructor
 ·intro h
  rcases oS h with ⟨r', h1, h2⟩ | ⟨rfl, _, _⟩
  ·rw [hk] at h1
   simp only [Option.some.injEq] at h1
   rw [h1]; exact h2
  ·rw [qT] at hk; cases hk
 ·intro h
  unfold gG
  rw [h]
  simp only [rG _ _ _ hd hk]
section
variable {P : Program}
open Classical in
theorem cM.frame {g : Nat} {args argsB : List D} {rt rtB : List (Option Root)} {K KB : D → List (Option Root) → Prop} {kp : Nat} (σ : List Nat) (hkp : 1 ≤ kp ∧ kp ≤ σ.length + 1)
  (h : cM P g kp args (none :: rt) K)
  (hent : chk (distinct (cP σ)) (mA (cP σ) args argsB (fM (cP σ) rtB (cP σ) (none :: rt) True)))
  (hK : ∀ d rt', K d rt' → rt'[0]? = some none ∧ kp ≤ rt'.length ∧ KB (renD (dS σ kp rtB.length) d) (eH σ kp rtB rt')) : cM P g rtB.length argsB rtB KB := by
 obtain ⟨fn, c, h1, h2, h3, hsvc⟩ := h
 refine ⟨fn, c, h1, h2, h3, fun w0 env tm w own vals hs _ _ _ hsz hargs => ?_⟩
 have hent := aO hent
 obtain ⟨hdis, hent⟩ := hent
 obtain ⟨hroots, hlen, hslots⟩ := B7 _ _ _ hent
 obtain ⟨hrl, hrt⟩ := L9 _ _ _ hroots
 have hlive : ∀ (k r : Nat), (cP σ)[k]? = some (some r) → ∃ R, aQ rtB r = some (some R) := fun k r hk => by
  obtain ⟨x, hx⟩ := gB hrl hk
  have := hrt k _ _ hk hx
  cases x with
  | none => exact this.elim
  | some R2 => obtain ⟨R, hR, _⟩ := this; exact ⟨R, hR⟩
 have hσB : ∀ (j r : Nat), σ[j]? = some r → ∃ R, aQ rtB r = some (some R) := fun j r h => hlive (j + 1) r (mW h)
 have hσlt : ∀ (j r : Nat), σ[j]? = some r → r < rtB.length := fun j r h => by
  obtain ⟨R, hR⟩ := hσB j r h
  exact tX hR
 have hσi : ∀ i j r : Nat, σ[i]? = some r → σ[j]? = some r → i = j := fun i j r h h' => by
  have e1 := rG _ _ _ hdis (mW h)
  have e2 := rG _ _ _ hdis (mW h')
  rw [e1] at e2
  simp only [Option.some.injEq] at e2
  omega
 have ocl := fun (k r : Nat) (hk : (cP σ)[k]? = some (some r)) => Amg (own := own) hdis hk
 have sig : SigOk (cP σ) own (gG own (cP σ)) (aQ rtB) (aQ (none :: rt)) := by
  refine ⟨fun b hb => I1.2 hb, fun k r hk => ?_, fun k r R R2 p hk h1 h2 hp => ?_, fun k hk => ?_⟩
  ·obtain ⟨x, hx⟩ := gB hrl hk
   have := hrt k _ _ hk hx
   cases x with
   | none => exact this.elim
   | some R2 =>
    obtain ⟨R, hR, _⟩ := this
    exact ⟨by unfold aQ; rw [hx]; simp, ⟨R, hR⟩, ocl k r hk⟩
  ·rcases hp with e | ⟨hb, hg⟩
   ·exact .inl e
   ·obtain ⟨x, hx⟩ := gB hrl hk
    have hto := hrt k _ _ hk hx
    unfold aQ at h1 h2
    rw [hx] at h2
    simp only [Option.some.injEq] at h2
    subst h2
    obtain ⟨R0, hR0, hbox, hcs⟩ := hto
    rw [hR0] at h1
    simp only [Option.some.injEq] at h1
    subst h1
    split at hcs
    ·rename_i h9; rw [hbox, h9] at hb; cases hb
    ·exact .inr ⟨by rw [← hbox]; exact hb, by rw [← hcs]; exact hg⟩
  ·cases k with
   | zero => exact ⟨by simp [aQ], fun R hR => by simp [aQ] at hR⟩
   | succ j =>
    rw [P3, Option.map_eq_some_iff] at hk
    obtain ⟨_, _, e⟩ := hk
    cases e
 have hbz : ∀ b l, gG own (cP σ) b = some l → b < w.heap.size := fun b l h => by
  cases ho : own b with
  | none => rw [I1.2 ho] at h; cases h
  | some l0 => obtain ⟨r, p⟩ := l0; exact (hs.lab b r p ho).2.1
 let hid1 : Nat → Prop := fun b => ∃ p, gG own (cP σ) b = some (0, p)
 let prot1 : Nat → Prop := fun b => b < w.heap.size ∧ ∀ k p, gG own (cP σ) b = some (k, p) → k = 0
 have hh1 : ∀ b, hid1 b → prot1 b := fun b hb => by
  obtain ⟨p, hp⟩ := hb
  exact ⟨hbz b _ hp, fun k q hq => by rw [hp] at hq; cases hq; rfl⟩
 let sus1 : D → Value → Prop := fun d v => BelowD kp d ∧ Mt w (okb w (gG own (cP σ))) (gG own (cP σ)) (aQ (none :: rt)) d v
 let w1 : Base := { toWorld := w, prot := prot1, hp := fun b h => h.1, hid := hid1, hh := hh1, hl := fun b => (0, [b]), susp := sus1, keep := kp, hk := fun d v h => h.1, hlk := fun b _ => hkp.1 }
 have hsim : Sim w1 (fun _ => .undef) (aQ (none :: rt)) tm w (gG own (cP σ)) := by
  refine ⟨Kept.refl _ _, fun i => .undef _, fun k R2 hk => ?_, fun b q p hb => ?_, fun b hb => ?_, fun b b' l hb hb' => ?_, fun d v h => h.2⟩
  ·have hx : (none :: rt)[k]? = some (some R2) := hk
   obtain ⟨s, hσ⟩ := gB hrl.symm hx
   have hto := hrt k s _ hσ hx
   cases s with
   | none => exact .inr ⟨hto.1, hto.2, fun b => (sig.fresh k hσ).2 R2 hk b []⟩
   | some r =>
    obtain ⟨R, hR, hbox, hcs⟩ := hto
    obtain ⟨_, _, hown⟩ := sig.live k r hσ
    rcases hs.roots r R hR with ⟨b, arr, e, h1, h2, h3, h4⟩ | ⟨h1, h2, h3⟩
    ·refine .inl ⟨b, arr, e, (hown b []).2 h1, h2, ?_, fun i d2 v hd2 hv => ?_⟩
     ·split at hcs
      ·rw [hcs.1]; exact h3
      ·rw [← hcs]; exact h3
     ·unfold bX
      split at hcs
      ·rename_i hb
       rw [if_pos hb]
       obtain ⟨d, hd'⟩ := gB hcs.1 hd2
       have := h4 i d v hd' hv
       unfold bX at this
       rw [hbox, if_pos hb] at this
       exact hcs.2 i d2 d hd2 hd' w own _ _ _ sig v this
      ·rename_i hb
       rw [if_neg hb]
       rw [← hcs] at hd2
       have := h4 i d2 v hd2 hv
       unfold bX at this
       rw [hbox, if_neg hb] at this
       exact this.relab (k, [i]) (fun b hb => ⟨sig.okb hb, rfl⟩) (fun b q hq => ⟨(hown b _).2 hq, rfl⟩) (fun b q hq => (hown b _).1 hq)
    ·split at hcs
     ·rename_i hb; rw [hbox, hb] at h1; cases h1
     ·exact .inr ⟨by rw [← hbox]; exact h1, by rw [← hcs]; exact h2, fun b hb => h3 b ((hown b []).1 hb)⟩
  ·rcases oS hb with ⟨r, hk, ho⟩ | ⟨rfl, rfl, _⟩
   ·refine ⟨fun hp => ?_, hbz b _ hb, (sig.live q r hk).1⟩
    have := hp.2 q p hb
    subst this
    rw [qT] at hk; cases hk
   ·exact ⟨fun _ => rfl, hbz b _ hb, by simp [aQ]⟩
  ·obtain ⟨p, hp⟩ := hb
   rcases oS hp with ⟨r, hk, ho⟩ | ⟨_, rfl, _⟩
   ·rw [qT] at hk; cases hk
   ·exact ⟨hp, rfl⟩
  ·obtain ⟨q, p⟩ := l
   rcases oS hb with ⟨r, hk, ho⟩ | ⟨e1, e2, _⟩ <;> rcases oS hb' with ⟨r', hk', ho'⟩ | ⟨e1', e2', _⟩
   ·rw [hk] at hk'
    simp only [Option.some.injEq] at hk'
    subst hk'
    exact hs.inj b b' _ ho ho'
   ·subst e1'; rw [qT] at hk; cases hk
   ·subst e1; rw [qT] at hk'; cases hk'
   ·rw [e2] at e2'; simpa using e2'
 refine wp_mono (hsvc w1 (fun _ => .undef) tm w (gG own (cP σ)) vals hsim (fun i => .undef) (fun d v h => h.1) (fun b _ => hkp.1) (by rw [hsz]; exact hlen.symm) (fun i d v h1 h2 => ?_)) (fun e a' w' hpost => ?_)
 ·obtain ⟨dB, hdB⟩ := gB hlen h1
  exact hslots i d dB h1 hdB w own _ _ _ sig v (hargs i dB v hdB h2)
 obtain ⟨he, hd', v, d, rt', fA, hrv, hkd, hs2, hmd⟩ := hpost
 obtain ⟨hr0, hrlen, hKB⟩ := hK d rt' hkd
 -- the caller's labels afterwards
 let ownF : Nat → Option Lab := fun b => if w1.hid b then own b else match fA b with
  | some (k, p) => if k ≠ 0 ∧ ∃ R, aQ rt' k = some (some R) then some (dS σ kp rtB.length k, p) else none
  | none => none
 have hidO : ∀ b, w1.hid b → ∃ r p0, own b = some (r, p0) ∧ (∀ k : Nat, σ[k]? ≠ some r) ∧ fA b = some (0, [b]) := fun b hb => by
  obtain ⟨p, hp⟩ := hb
  rcases oS hp with ⟨r, hk, ho⟩ | ⟨_, e, r, p0, ho, hn⟩
  ·rw [qT] at hk; cases hk
  ·refine ⟨r, p0, ho, fun k hk => ?_, (hs2.hidl b ⟨p, hp⟩).1⟩
   rw [rG _ _ _ hdis (mW hk)] at hn; cases hn
 have restH : ∀ b r p, own b = some (r, p) → (∀ k : Nat, σ[k]? ≠ some r) → w1.hid b := fun b r p ho hn => by
  cases hk : gV (cP σ) r with
  | none => exact ⟨[b], by unfold gG; rw [ho]; simp only [hk]⟩
  | some k =>
   obtain ⟨j, _, hj⟩ := Ajm (tK _ _ _ hk)
   exact absurd hj (hn j)
 have rt0 : aQ rt' 0 = some none := hr0
 have ltB : ∀ r, aQ rtB r ≠ none → r < rtB.length := fun r h => by
  rcases Nat.lt_or_ge r rtB.length with h' | h'
  ·exact h'
  ·exact absurd (oU h') h
 have F := fun {k : Nat} {x : Option Root} (hk : k ≠ 0) (h : rt'[k]? = some x) => Ajs (σ := σ) (rtB := rtB) hσi hσlt hkp.2 hk h
 have G : ∀ r, aQ rtB r ≠ none → (∀ k : Nat, σ[k]? ≠ some r) → aQ (eH σ kp rtB rt') r = aQ rtB r := fun r h hn => Afs (ltB r h) hn
 have hA : ∀ k R, aQ rt' k = some (some R) → ∀ b p, ownF b = some (dS σ kp rtB.length k, p) ↔ fA b = some (k, p) := by
  intro k R hR b p
  have hk0 : k ≠ 0 := fun e => by rw [e, rt0] at hR; cases hR
  constructor
  ·intro h
   simp only [ownF] at h
   split at h
   ·rename_i hb
    obtain ⟨r, p0, ho, hn, _⟩ := hidO b hb
    rw [ho] at h
    simp only [Option.some.injEq, Prod.mk.injEq] at h
    rcases sI (σ := σ) (rtB := rtB) hkp.2 k hk0 with ⟨j, _, _, h1⟩ | ⟨_, h2⟩
    ·exact absurd (by rw [h.1]; exact h1) (hn j)
    ·have := ltB r (hs.lab b r p0 ho).2.2
     omega
   ·split at h
    ·rename_i k' p' ho
     split at h
     ·rename_i hc
      simp only [Option.some.injEq, Prod.mk.injEq] at h
      have := Adz hσi hσlt hkp.2 hc.1 hk0 h.1
      rw [ho, this, h.2]
     ·cases h
    ·cases h
  ·intro h
   have hnh : ¬ w1.hid b := fun hb => by
    obtain ⟨_, _, _, _, h2⟩ := hidO b hb
    rw [h] at h2
    simp only [Option.some.injEq, Prod.mk.injEq] at h2
    exact hk0 h2.1
   simp only [ownF]
   rw [if_neg hnh, h]
   simp only
   rw [if_pos ⟨hk0, R, hR⟩]
 have hBr : ∀ r, aQ rtB r ≠ none → (∀ k : Nat, σ[k]? ≠ some r) → ∀ b p, ownF b = some (r, p) ↔ own b = some (r, p) := by
  intro r hr hn b p
  constructor
  ·intro h
   simp only [ownF] at h
   split at h
   ·exact h
   ·split at h
    ·split at h
     ·rename_i hc
      simp only [Option.some.injEq, Prod.mk.injEq] at h
      rcases sI (σ := σ) (rtB := rtB) hkp.2 _ hc.1 with ⟨j, _, _, h1⟩ | ⟨_, h2⟩
      ·rw [h.1] at h1; exact absurd h1 (hn j)
      ·have := ltB r hr; omega
     ·cases h
    ·cases h
  ·intro h
   simp only [ownF]
   rw [if_pos (restH b r p h hn)]
   exact h
 have hC : ∀ b, okb w' fA b → okb w' ownF b := fun b hb => by
  refine ⟨?_, hb.2⟩
  have hnh : ¬ w1.hid b := fun hh => by
   obtain ⟨_, _, _, _, h2⟩ := hidO b hh
   rw [hb.1] at h2; cases h2
  simp only [ownF]
  rw [if_neg hnh, hb.1]
 have hunch : ∀ b, w1.prot b → w'.heap[b]? = w.heap[b]? := fun b hb => hs2.below.block b hb
 have hD : ∀ b, okb w own b → okb w' ownF b ∧ w'.heap[b]? = w.heap[b]? := fun b hb => by
  have hoc : gG own (cP σ) b = none := I1.2 hb.1
  have hpr : w1.prot b := ⟨hb.2, fun k p h => by rw [hoc] at h; cases h⟩
  refine ⟨⟨?_, Nat.lt_of_lt_of_le hb.2 hs2.below.size⟩, hunch b hpr⟩
  have hnh : ¬ w1.hid b := fun ⟨p, hp⟩ => by rw [hoc] at hp; cases hp
  simp only [ownF]
  rw [if_neg hnh]
  split
  ·rename_i k p ho
   have := (hs2.lab b k p ho).1 hpr
   rw [if_neg]
   rintro ⟨_, R, hR⟩
   rw [this] at hR; cases hR
  ·rfl
 have hren : RenOk (dS σ kp rtB.length) w' fA ownF (aQ rt') (aQ (eH σ kp rtB rt')) := by
  refine ⟨hC, fun k hk hx => ?_, fun k R' hk hx hR' => ?_⟩
  ·obtain ⟨x, hx⟩ := Option.ne_none_iff_exists'.1 hx
   show (eH σ kp rtB rt')[_]? ≠ none
   rw [F hk hx]; simp
  ·obtain ⟨x, hx⟩ := Option.ne_none_iff_exists'.1 hx
   have hR2 : (eH σ kp rtB rt')[dS σ kp rtB.length k]? = some (some R') := hR'
   rw [F hk hx] at hR2
   simp only [Option.some.injEq] at hR2
   cases x with
   | none => cases hR2
   | some R =>
    refine ⟨R, hx, ?_, ?_, hA k R hx⟩
    ·obtain ⟨bx, sz, cs⟩ := R
     cases bx <;> (simp only [renR, Option.some.injEq] at hR2; subst hR2; rfl)
    ·obtain ⟨bx, sz, cs⟩ := R
     intro hb
     simp only at hb
     subst hb
     simp only [renR, Option.some.injEq] at hR2
     subst hR2; rfl
 -- what the caller's slots hold
 have hE : ∀ d v, Mt w (okb w own) own (aQ rtB) d v → Mt w' (okb w' ownF) ownF (aQ (eH σ kp rtB rt')) d v := by
  intro d v hm
  induction hm with
  | undef v => exact .undef v
  | sh d v h => exact .sh d v (h.frame hD)
  | ref r p sz off n v h0 h1 h =>
   by_cases hσr : ∃ k : Nat, σ[k]? = some r
   ·obtain ⟨k, hk⟩ := hσr
    obtain ⟨R, hR⟩ := hσB k r hk
    have hx := (sig.live (k + 1) r (mW hk)).1
    rcases Nat.lt_or_ge (k + 1) kp with hlt | hge
    rotate_left
    ·have hg : aQ (eH σ kp rtB rt') r = some none := K1 hσi hσlt hk hge
     exact .ref r p sz off n v (by rw [hg]; simp) h1 (fun R' hR' => by rw [hg] at hR'; cases hR')
    have hin : w1.susp (.ref (k + 1) p sz off n) v := by
     refine ⟨.ref _ _ _ _ _ hlt, .ref _ _ _ _ _ _ hx h1 (fun R' hR' => ?_)⟩
     obtain ⟨hp, h⟩ := h R hR
     refine ⟨sig.path _ _ R R' _ (mW hk) hR hR' hp, ?_⟩
     have hown := (sig.live (k + 1) r (mW hk)).2.2
     rcases h with ⟨b, arr, e, cap, o, hb, hw, hv, hnc, hc, ho⟩ | ⟨hv, ho, hn, hb⟩
     ·exact .inl ⟨b, arr, e, cap, o, (hown b _).2 hb, hw, hv, hnc, hc, ho⟩
     ·exact .inr ⟨hv, ho, hn, fun b hb' => hb b ((hown b _).1 hb')⟩
    have := (hs2.susp _ _ hin).ren1 hren
    have e : dS σ kp rtB.length (k + 1) = r := by
     obtain ⟨j, e1, e2⟩ := vV (σ := σ) (n := rtB.length) (by omega) hlt hkp.2
     have e3 : j = k := by omega
     rw [e3, hk] at e2
     simp only [Option.some.injEq] at e2
     exact e2.symm
    simp only [ren1] at this
    rw [e] at this
    exact this
   ·have hn : ∀ k : Nat, σ[k]? ≠ some r := fun k hk => hσr ⟨k, hk⟩
    refine .ref r p sz off n v (by rw [G r h0 hn]; exact h0) h1 (fun R' hR' => ?_)
    rw [G r h0 hn] at hR'
    obtain ⟨hp, h⟩ := h R' hR'
    refine ⟨hp, ?_⟩
    rcases h with ⟨b, arr, e, cap, o, hb, hw, hv, hnc, hc, ho⟩ | ⟨hv, ho, hn', hb⟩
    ·exact .inl ⟨b, arr, e, cap, o, (hBr r h0 hn b p).2 hb, (hunch b (w1.hh b (restH b r p hb hn))).trans hw, hv, hnc, hc, ho⟩
    ·exact .inr ⟨hv, ho, hn', fun b hb' => hb b ((hBr r h0 hn b p).1 hb')⟩
  | ptr r p off v h0 h1 h =>
   by_cases hσr : ∃ k : Nat, σ[k]? = some r
   ·obtain ⟨k, hk⟩ := hσr
    obtain ⟨R, hR⟩ := hσB k r hk
    have hx := (sig.live (k + 1) r (mW hk)).1
    rcases Nat.lt_or_ge (k + 1) kp with hlt | hge
    rotate_left
    ·have hg : aQ (eH σ kp rtB rt') r = some none := K1 hσi hσlt hk hge
     exact .ptr r p off v (by rw [hg]; simp) h1 (fun R' hR' => by rw [hg] at hR'; cases hR')
    have hin : w1.susp (.ptr (k + 1) p off) v := by
     refine ⟨.ptr _ _ _ hlt, .ptr _ _ _ _ hx h1 (fun R' hR' => ?_)⟩
     obtain ⟨hp, b, arr, e, hb, hw, hv⟩ := h R hR
     have hown := (sig.live (k + 1) r (mW hk)).2.2
     exact ⟨sig.path _ _ R R' _ (mW hk) hR hR' hp, b, arr, e, (hown b _).2 hb, hw, hv⟩
    have := (hs2.susp _ _ hin).ren1 hren
    have e : dS σ kp rtB.length (k + 1) = r := by
     obtain ⟨j, e1, e2⟩ := vV (σ := σ) (n := rtB.length) (by omega) hlt hkp.2
     have e3 : j = k := by omega
     rw [e3, hk] at e2
     simp only [Option.some.injEq] at e2
     exact e2.symm
    simp only [ren1] at this
    rw [e] at this
    exact this
   ·have hn : ∀ k : Nat, σ[k]? ≠ some r := fun k hk => hσr ⟨k, hk⟩
    refine .ptr r p off v (by rw [G r h0 hn]; exact h0) h1 (fun R' hR' => ?_)
    rw [G r h0 hn] at hR'
    obtain ⟨hp, b, arr, e, hb, hw, hv⟩ := h R' hR'
    exact ⟨hp, b, arr, e, (hBr r h0 hn b p).2 hb, (hunch b (w1.hh b (restH b r p hb hn))).trans hw, hv⟩
  | agg ds vs hl hr ih => exact .agg ds vs hl ih
  | tup ds vs hl hr ih => exact .tup ds vs hl ih
  | fn f fs cs first caps h1 h2 hf hr ihf ih => exact .fn f fs cs first caps h1 h2 ihf ih
 refine ⟨he, hd', v, renD (dS σ kp rtB.length) d, eH σ kp rtB rt', ownF, hrv, hKB, ⟨?_, fun i => hE _ _ (hs.env i), fun r R hR => ?_, fun b r p hb => ?_, fun b hb => ?_, fun b b' l hb hb' => ?_, fun d v h => hE _ _ (hs.susp d v h)⟩, hmd.renD hren⟩
 ·refine ⟨hs2.below.os.trans hs.below.os, hs2.below.tape.trans hs.below.tape, hs2.below.output.trans hs.below.output, Nat.le_trans hs.below.size hs2.below.size, fun b hb => ?_⟩
  refine (hunch b ⟨Nat.lt_of_lt_of_le (w0.hp b hb) hs.below.size, fun k p h => ?_⟩).trans (hs.below.block b hb)
  rcases oS h with ⟨r, hk, ho⟩ | ⟨e, _⟩
  ·obtain ⟨R, hR⟩ := hlive k r hk
   have := (hs.lab b r p ho).1 hb
   rw [hR] at this; cases this
  ·exact e
 ·by_cases hlt : r < rtB.length ∧ ∀ k : Nat, σ[k]? ≠ some r
  ·have h0 : aQ (eH σ kp rtB rt') r = aQ rtB r := Afs hlt.1 hlt.2
   have hR0 : aQ rtB r = some (some R) := by rw [← h0]; exact hR
   have hne : aQ rtB r ≠ none := by rw [hR0]; simp
   have hbr := hBr r hne hlt.2
   have hbl : ∀ b p, own b = some (r, p) → w'.heap[b]? = w.heap[b]? := fun b p ho => hunch b (w1.hh b (restH b r p ho hlt.2))
   rcases hs.roots r R hR0 with ⟨b, arr, e, h1, h2, h3, h4⟩ | ⟨h1, h2, h3⟩
   ·refine .inl ⟨b, arr, e, (hbr b []).2 h1, (hbl b _ h1).trans h2, h3, fun i d v hi hv => ?_⟩
    have := h4 i d v hi hv
    unfold bX at this ⊢
    split
    ·rename_i hb; rw [if_pos hb] at this; exact hE _ _ this
    ·rename_i hb; rw [if_neg hb] at this
     exact this.frame hD (fun b q hq => ⟨(hbr b _).2 hq, hbl b _ hq⟩) (fun b q hq => (hbr b _).1 hq)
   ·exact .inr ⟨h1, h2, fun b hb => h3 b ((hbr b []).1 hb)⟩
  ·have hk : ∃ k x, k ≠ 0 ∧ rt'[k]? = some x ∧ r = dS σ kp rtB.length k := by
    by_cases hσr : ∃ k : Nat, σ[k]? = some r
    ·obtain ⟨k, hk⟩ := hσr
     rcases Nat.lt_or_ge (k + 1) kp with hlk | hge
     ·have hk1 : k + 1 < rt'.length := by omega
      refine ⟨k + 1, _, by omega, List.getElem?_eq_getElem hk1, ?_⟩
      obtain ⟨j, e1, e2⟩ := vV (σ := σ) (n := rtB.length) (by omega) hlk hkp.2
      have e3 : j = k := by omega
      rw [e3, hk] at e2
      simpa using e2
     ·have hg : aQ (eH σ kp rtB rt') r = some none := K1 hσi hσlt hk hge
      rw [hg] at hR; cases hR
    ·have hge : rtB.length ≤ r := by
      rcases Nat.lt_or_ge r rtB.length with h' | h'
      ·exact absurd ⟨h', fun k hk => hσr ⟨k, hk⟩⟩ hlt
      ·exact h'
     have hl := tX (show (eH σ kp rtB rt')[r]? = some (some R) from hR)
     unfold eH at hl
     rw [List.length_append, qZ, List.length_map, List.length_drop] at hl
     have hk1 : r - rtB.length + kp < rt'.length := by omega
     refine ⟨r - rtB.length + kp, _, by omega, List.getElem?_eq_getElem hk1, ?_⟩
     rw [P4 (by omega)]; omega
   obtain ⟨k, x, hk0, hx, rfl⟩ := hk
   have h5 := F hk0 hx
   have hR' : (eH σ kp rtB rt')[dS σ kp rtB.length k]? = some (some R) := hR
   rw [h5] at hR'
   simp only [Option.some.injEq] at hR'
   cases x with
   | none => cases hR'
   | some R0 => exact kE.ren hren hk0 hx hR' hR (hs2.roots k R0 hx)
 ·by_cases hh : w1.hid b
  ·have ho : own b = some (r, p) := by simp only [ownF] at hb; rw [if_pos hh] at hb; exact hb
   obtain ⟨r0, p0, ho0, hn, _⟩ := hidO b hh
   rw [ho] at ho0
   simp only [Option.some.injEq, Prod.mk.injEq] at ho0
   rw [← ho0.1] at hn
   obtain ⟨k1, k2, k3⟩ := hs.lab b r p ho
   exact ⟨fun hp => by rw [G r k3 hn]; exact k1 hp, Nat.lt_of_lt_of_le k2 hs2.below.size, by rw [G r k3 hn]; exact k3⟩
  ·simp only [ownF] at hb
   rw [if_neg hh] at hb
   split at hb
   ·rename_i k p' ho
    split at hb
    ·rename_i hc
     simp only [Option.some.injEq, Prod.mk.injEq] at hb
     obtain ⟨rfl, rfl⟩ := hb
     obtain ⟨k1, k2, k3⟩ := hs2.lab b k p' ho
     obtain ⟨hk0, R, hR⟩ := hc
     refine ⟨fun hp => ?_, k2, hren.ne k hk0 k3⟩
     exfalso
     have hpr : w1.prot b := by
      refine ⟨Nat.lt_of_lt_of_le (w0.hp b hp) hs.below.size, fun j q h => ?_⟩
      rcases oS h with ⟨r, hk, ho'⟩ | ⟨e, _⟩
      ·obtain ⟨R', hR'⟩ := hlive j r hk
       have := (hs.lab b r q ho').1 hp
       rw [hR'] at this; cases this
      ·exact e
     have := k1 hpr
     rw [hR] at this; cases this
    ·cases hb
   ·cases hb
 ·obtain ⟨k1, k2⟩ := hs.hidl b hb
  have hn : ∀ k : Nat, σ[k]? ≠ some (w0.hl b).1 := fun k hk => by
   obtain ⟨R, hR⟩ := hσB k _ hk
   rw [hR] at k2; cases k2
  have hh : w1.hid b := restH b _ _ k1 hn
  refine ⟨by simp only [ownF]; rw [if_pos hh]; exact k1, by rw [G _ (by rw [k2]; simp) hn]; exact k2⟩
 ·obtain ⟨q, p⟩ := l
  by_cases hh : w1.hid b <;> by_cases hh' : w1.hid b'
  ·simp only [ownF] at hb hb'
   rw [if_pos hh] at hb
   rw [if_pos hh'] at hb'
   exact hs.inj b b' _ hb hb'
  ·exfalso
   simp only [ownF] at hb hb'
   rw [if_pos hh] at hb
   rw [if_neg hh'] at hb'
   obtain ⟨r0, p0, ho0, hn, _⟩ := hidO b hh
   rw [hb] at ho0
   simp only [Option.some.injEq, Prod.mk.injEq] at ho0
   split at hb'
   ·split at hb'
    ·rename_i hc
     simp only [Option.some.injEq, Prod.mk.injEq] at hb'
     rcases sI (σ := σ) (rtB := rtB) hkp.2 _ hc.1 with ⟨j, _, _, h1⟩ | ⟨_, h2⟩
     ·rw [hb'.1, ho0.1] at h1; exact hn j h1
     ·have := ltB q (hs.lab b q p hb).2.2; omega
    ·cases hb'
   ·cases hb'
  ·exfalso
   simp only [ownF] at hb hb'
   rw [if_neg hh] at hb
   rw [if_pos hh'] at hb'
   obtain ⟨r0, p0, ho0, hn, _⟩ := hidO b' hh'
   rw [hb'] at ho0
   simp only [Option.some.injEq, Prod.mk.injEq] at ho0
   split at hb
   ·split at hb
    ·rename_i hc
     simp only [Option.some.injEq, Prod.mk.injEq] at hb
     rcases sI (σ := σ) (rtB := rtB) hkp.2 _ hc.1 with ⟨j, _, _, h1⟩ | ⟨_, h2⟩
     ·rw [hb.1, ho0.1] at h1; exact hn j h1
     ·have := ltB q (hs.lab b' q p hb').2.2; omega
    ·cases hb
   ·cases hb
  ·simp only [ownF] at hb hb'
   rw [if_neg hh] at hb
   rw [if_neg hh'] at hb'
   split at hb
   ·rename_i k1 p1 o1
    split at hb
    ·rename_i hc
     split at hb'
     ·rename_i k2 p2 o2
      split at hb'
      ·rename_i hc'
       simp only [Option.some.injEq, Prod.mk.injEq] at hb hb'
       have e1 := Adz hσi hσlt hkp.2 hc.1 hc'.1 (hb.1.trans hb'.1.symm)
       have e2 := hb.2.trans hb'.2.symm
       subst e1; subst e2
       exact hs2.inj b b' _ o1 o2
      ·cases hb'
     ·cases hb'
    ·cases hb
   ·cases hb
end
end Go.Vm
namespace Go.Vm
open Go Go.RowKit
def frz1 : D → D
 | .list _ sz cs => .list false sz cs
 | d => d
theorem Sh.map {w : World} {ok : Nat → Prop} {f : D → D} (hf : ∀ d v, Sh w ok d v → Sh w ok (f d) v) {o o' : Bool} {sz : Nat} {cs : List D} {v : Value} (h : Sh w ok (.list o sz cs) v) : Sh w ok (.list o' sz (cs.map f)) v := by
 cases h with
 | nil => exact .nil _ _
 | wild _ _ a => exact .wild _ _ a
 | list _ _ _ b off len cap hl hlc hb hc hr =>
  refine .list _ _ _ b off len cap (by simpa using hl) hlc hb (fun i hi => hc i (by simpa using hi)) (fun i d v hd hv => ?_)
  rw [List.getElem?_map, Option.map_eq_some_iff] at hd
  obtain ⟨d0, h0, rfl⟩ := hd
  exact hf _ _ (hr i d0 v h0 hv)
theorem Sh.frz1 {w : World} {ok : Nat → Prop} {d : D} {v : Value} (h : Sh w ok d v) : Sh w ok (Vm.frz1 d) v := by
 cases d <;> first | exact h | (have := Sh.map (f := fun d => d) (o' := false) (fun _ _ h => h) h; simpa [Vm.frz1] using this)
theorem Tr.toSh {w : World} {ok ok' : Nat → Prop} {own : Nat → Option Lab} {l : Lab} {d : D} {v : Value} (h : Tr w ok own l d v) (hok : ∀ b, ok b → ok' b) (hown : ∀ b q, own b = some (l.1, l.2 ++ q) → ok' b) : Sh w ok' d v := by
 induction h with
 | sh l d v ho h => exact h.frame (fun b hb => ⟨hok b hb, rfl⟩)
 | nil l sz hn => exact .nil _ _
 | own l sz cs b len cap arr e hz hl hlc hb hw hc hs hr ih =>
  refine .list _ _ _ b 0 len cap hl hlc (hown b [] (by simpa using hb)) (fun i hi => ?_) (fun i d v hd hv => ?_)
  ·rw [cell_of_heap hw, Array.getElem?_eq_getElem (by omega)]; rfl
  ·rw [cell_of_heap hw, Nat.zero_add] at hv
   exact ih i d v hd hv (fun b q hq => hown b (i :: q) (by simpa using hq))
theorem aC.freeze0 {kp r i sz s0 n : Nat} {cs cs' : List D} {env : List D} {rt : List (Option Root)} (hr : rt[r]? = some (some ⟨false, s0, cs⟩)) (hi : env[i]? = some (.ref r [] sz 0 n)) (hn : n * sz = cs.length) (hc : cs.map frz1 = cs') :
  aC kp ⟨env, rt⟩ ⟨env.set i (.list false sz cs'), rt.set r none⟩ := by
 intro w0 a w hkp hf
 obtain ⟨own, hd, hl, hs⟩ := hf
 have hrl : r < rt.length := (List.getElem?_eq_some_iff.1 hr).1
 have hil : i < env.length := (List.getElem?_eq_some_iff.1 hi).1
 have hs2 := hs.killE r (by show rt[r]? ≠ _; rw [hr]; simp)
 have hrt : (aQ rt).set r none = aQ (rt.set r none) := by
  funext q
  unfold RT.set aQ
  split
  ·rename_i e; subst e; rw [List.getElem?_set_self hrl]
  ·rename_i e; rw [List.getElem?_set_ne (Ne.symm e)]
 rw [hrt] at hs2
 refine ⟨dC own r, hd, by simpa using hl, hs2.put (fun k => ?_)⟩
 by_cases e : k = i
 ·right
  subst e
  have e1 : (env.set k (.list false sz cs')).getD k D.undef = .list false sz cs' := by
   rw [List.getD_eq_getElem?_getD, List.getElem?_set_self hil]; rfl
  have e2 : env.getD k D.undef = .ref r [] sz 0 n := by rw [List.getD_eq_getElem?_getD, hi]; rfl
  have hm := hs.env k
  simp only [e2] at hm
  simp only [e1]
  refine .sh _ _ ?_
  have hR : aQ rt r = some (some ⟨false, s0, cs⟩) := hr
  rcases hm.ref_inv.2 _ hR with ⟨b, arr, e, cap, o, hb, hw, hv, hnc, hcap, ho⟩ | ⟨hv, _, hn0, hno⟩
  ·have ho := ho (.inl rfl)
   rw [Nat.zero_mul] at ho
   subst ho
   rcases hs.roots r _ hR with ⟨b2, arr2, e2, k1, k2, k3, k4⟩ | ⟨_, _, k3⟩
   ·have hbb := hs.inj b b2 _ hb k1
    subst hbb
    rw [hw] at k2
    cases k2
    rw [hv, ← hc]
    refine .list _ _ _ b 0 n cap (by simpa using hn) hnc ⟨?_, (hs.lab b r [] hb).2.1⟩ (fun j hj => ?_) (fun j d v hd hv => ?_)
    ·unfold dC; rw [hb]; simp
    ·rw [cell_of_heap hw, Nat.zero_add, Array.getElem?_eq_getElem (by simp at hj; simp at k3; omega)]; rfl
    ·rw [cell_of_heap hw, Nat.zero_add] at hv
     rw [List.getElem?_map, Option.map_eq_some_iff] at hd
     obtain ⟨d0, h0, rfl⟩ := hd
     have h4 := k4 j d0 v h0 hv
     unfold bX at h4
     rw [if_neg (by simp)] at h4
     refine (h4.toSh (ok' := okb w (dC own r)) (fun b hb => ⟨?_, hb.2⟩) (fun b q hq => ⟨?_, (hs.lab b r _ hq).2.1⟩)).frz1
     ·unfold dC; rw [hb.1]
     ·unfold dC; rw [hq]; simp
   ·exact absurd hb (k3 b)
  ·have : cs = [] := List.eq_nil_of_length_eq_zero (by rw [← hn, hn0, Nat.zero_mul])
   subst this
   rw [hv, ← hc]
   exact .nil _ _
 ·left
  refine ⟨?_, rfl⟩
  show (env.set i _).getD k D.undef = env.getD k D.undef
  rw [List.getD_eq_getElem?_getD, List.getElem?_set_ne (Ne.symm e), List.getD_eq_getElem?_getD]
end Go.Vm
namespace Go.Vm
open Go Go.RowKit
section
variable {w0 : Base} {env : Nat → D} {tm : Nat → Value} {w : World} {own : Nat → Option Lab} {rt : RT} {ok : Nat → Prop}
end
theorem cM.freeze {P : Program} {g kp : Nat} {args : List D} {rt : List (Option Root)} {K : D → List (Option Root) → Prop} {i r n sz s0 : Nat} {cs cs' : List D} (hr : rt[r]? = some (some ⟨false, s0, cs⟩)) (hi : args[i]? = some (.ref r [] sz 0 n)) (hn : n * sz = cs.length) (hc : cs.map frz1 = cs')
  (h : cM P g kp (args.set i (.list false sz cs')) (rt.set r none) K) : cM P g kp args rt K := by
 obtain ⟨fn, c, h1, h2, h3, h4⟩ := h
 refine ⟨fn, c, h1, h2, h3, fun w0 env tm w own vals hs hb1 hb2 hb3 hsz hargs => ?_⟩
 let sus : D → Value → Prop := fun d v => w0.susp d v ∨ ∃ i, d = env i ∧ v = tm i
 have hbel : ∀ d v, sus d v → BelowD kp d := fun d v hp => by
  rcases hp with h | ⟨i, rfl, rfl⟩
  ·exact hb2 d v h
  ·exact hb1 i
 let w1 : Base := { toWorld := w0.toWorld, prot := w0.prot, hp := w0.hp, hid := w0.hid, hh := w0.hh, hl := w0.hl, susp := sus, keep := kp, hk := hbel, hlk := hb3 }
 let a1 : Act := { tmps := vals, defers := [] }
 have hfit : Fits w1 ⟨args, rt⟩ a1 w := by
  refine ⟨own, rfl, by simp [a1, hsz], ⟨hs.below, fun i => ?_, hs.roots, hs.lab, fun b hb => hs.hidl b hb, hs.inj, fun d v hp => ?_⟩⟩
  ·show Mt w (okb w own) own (aQ rt) (args.getD i D.undef) (a1.tmps.getD i Go.undef)
   rw [List.getD_eq_getElem?_getD]
   by_cases hi : i < args.length
   ·rw [List.getElem?_eq_getElem hi, Option.getD_some]
    have hi2 : i < vals.size := by rw [hsz]; exact hi
    have e1 : a1.tmps.getD i Go.undef = vals[i] := by
     simp only [a1, Array.getD_eq_getD_getElem?]
     rw [Array.getElem?_eq_getElem hi2]; rfl
    rw [e1]
    exact hargs i _ _ (List.getElem?_eq_getElem hi) (Array.getElem?_eq_getElem hi2)
   ·rw [List.getElem?_eq_none (by omega)]
    exact .undef _
  ·rcases hp with h | ⟨i, rfl, rfl⟩
   ·exact hs.susp d v h
   ·exact hs.env i
 obtain ⟨fA, _, _, hs2⟩ := aC.freeze0 (kp := kp) hr hi hn hc w1 a1 w rfl hfit
 refine h4 w0 env tm w fA vals ⟨hs2.below, fun i => hs2.susp (env i) (tm i) (.inr ⟨i, rfl, rfl⟩), hs2.roots, hs2.lab, hs2.hidl, hs2.inj, fun d v hp => hs2.susp d v (.inl hp)⟩ hb1 hb2 hb3 (by simpa using hsz) (fun j d v hd hv => ?_)
 have := hs2.env j
 have e1 : (args.set i (.list false sz cs')).getD j D.undef = d := by rw [List.getD_eq_getElem?_getD, hd]; rfl
 have e2 : a1.tmps.getD j Go.undef = v := by
  simp only [a1, Array.getD_eq_getD_getElem?]
  rw [hv]; rfl
 simp only [e1, e2] at this
 exact this
theorem xQ {P : Program} {p : Prop} {g : Nat} {cs args : List D} {rt : List (Option Root)} {KB : D → List (Option Root) → Prop} (i r : Nat) {n sz s0 : Nat} {xs xs' : List D} (hr : rt[r]? = some (some ⟨false, s0, xs⟩)) (hi : args[i]? = some (.ref r [] sz 0 n)) (hn : n * sz = xs.length) (hc : xs.map frz1 = xs')
  (h : False ∨ jC P (.fn (.func g) [] cs) (args.set i (.list false sz xs')) (rt.set r none) KB) : p ∨ jC P (.fn (.func g) [] cs) args rt KB := by
 refine .inr ?_
 have h := h.resolve_left id
 unfold jC at h ⊢
 have hil : i < args.length := (List.getElem?_eq_some_iff.1 hi).1
 refine cM.freeze (i := i) hr (by rw [List.nil_append, List.getElem?_append_left hil]; exact hi) hn hc ?_
 rw [List.nil_append, List.set_append_left _ _ hil]
 simpa using h
end Go.Vm
namespace Go.Vm
open Go Go.RowKit
inductive Fz (r : Nat) (cs : List D) : D → D → Prop
 | rfl (d : D) : Fz r cs d d
 | ref (sz off n : Nat) (cs' : List D) (hn : off * sz + n * sz ≤ cs.length) (hc : (sub cs sz off n).map frz1 = cs') : Fz r cs (.ref r [] sz off n) (.list false sz cs')
 | nil (sz : Nat) : Fz r cs (.lit (.slice none 0 0)) (.list false sz [])
 | agg (ds ds' : List D) (hl : ds.length = ds'.length) (h : ∀ (i : Nat) d d', ds[i]? = some d → ds'[i]? = some d' → Fz r cs d d') : Fz r cs (.agg ds) (.agg ds')
 | tup (ds ds' : List D) (hl : ds.length = ds'.length) (h : ∀ (i : Nat) d d', ds[i]? = some d → ds'[i]? = some d' → Fz r cs d d') : Fz r cs (.tup ds) (.tup ds')
theorem X2 {cs : List D} {sz off n : Nat} (hn : off * sz + n * sz ≤ cs.length) : (sub cs sz off n).length = n * sz := by
 unfold sub; rw [List.length_take, List.length_drop]; omega
theorem Aq3 {cs : List D} {sz off n j : Nat} (hj : j < n * sz) : (sub cs sz off n)[j]? = cs[off * sz + j]? := by
 unfold sub; rw [List.getElem?_take, if_pos hj, List.getElem?_drop]
theorem Fz.mt {r s0 : Nat} {cs : List D} {w0 : Base} {env : Nat → D} {rt : RT} {tm : Nat → Value} {w : World} {own : Nat → Option Lab} (hs : Sim w0 env rt tm w own) (hR : rt r = some (some ⟨false, s0, cs⟩)) {d d' : D} (h : Fz r cs d d') :
  ∀ {v : Value}, Mt w (okb w own) own rt d v → Mt w (okb w (dC own r)) (dC own r) (rt.set r none) d' v := by
 induction h with
 | rfl d =>
  intro v hm
  have h1 : Sim w0 (fun _ => d) rt (fun _ => v) w own := hs.put (fun i => .inr hm)
  exact (h1.killE r (by rw [hR]; simp)).env 0
 | nil sz =>
  intro v hm
  have := hm.lit_inv
  subst this
  exact .sh _ _ (.nil _ _)
 | ref sz off n cs' hn hc =>
  intro v hm
  refine .sh _ _ ?_
  rcases hm.ref_inv.2 _ hR with ⟨b, arr, e, cap, o, hb, hw, hv, hnc, hcap, ho⟩ | ⟨hv, _, hn0, hno⟩
  ·rcases hs.roots r _ hR with ⟨b2, arr2, e2, k1, k2, k3, k4⟩ | ⟨_, _, k3⟩
   ·have hbb := hs.inj b b2 _ hb k1
    subst hbb
    rw [hw] at k2
    cases k2
    have hlen : cs'.length = n * sz := by rw [← hc, List.length_map, X2 hn]
    have hoo : ∀ j, j < cs'.length → o = off * sz := fun j hj => ho (.inr (fun e0 => by have h0 : n * sz = 0 := by { rw [e0, Nat.zero_mul] }; omega))
    have k3' : cs.length ≤ arr.size := by simpa using k3
    rw [hv]
    refine .list _ _ _ b o n cap (by simpa using hlen.symm) hnc ⟨?_, (hs.lab b r [] hb).2.1⟩ (fun j hj => ?_) (fun j d v hd hv => ?_)
    ·unfold dC; rw [hb]; simp
    ·have hj' : j < cs'.length := by simpa using hj
     rw [cell_of_heap hw, hoo j hj', Array.getElem?_eq_getElem (by omega)]; rfl
    ·have hj' : j < cs'.length := (List.getElem?_eq_some_iff.1 hd).1
     rw [cell_of_heap hw, hoo j hj'] at hv
     rw [← hc, List.getElem?_map, Option.map_eq_some_iff] at hd
     obtain ⟨d0, h0, rfl⟩ := hd
     rw [Aq3 (by omega)] at h0
     have h4 := k4 _ d0 v h0 hv
     unfold bX at h4
     rw [if_neg (by simp)] at h4
     refine (h4.toSh (ok' := okb w (dC own r)) (fun b hb => ⟨?_, hb.2⟩) (fun b q hq => ⟨?_, (hs.lab b r _ hq).2.1⟩)).frz1
     ·unfold dC; rw [hb.1]
     ·unfold dC; rw [hq]; simp
   ·exact absurd hb (k3 b)
  ·have hlen : cs'.length = n * sz := by rw [← hc, List.length_map, X2 hn]
   have : cs' = [] := List.eq_nil_of_length_eq_zero (by rw [hlen, hn0, Nat.zero_mul])
   subst this
   rw [hv]
   exact .nil _ _
 | agg ds ds' hl h ih =>
  intro v hm
  obtain ⟨vs, rfl, hsz, hr⟩ := hm.agg_inv
  refine .agg _ vs (by omega) (fun i d' u hd' hu => ?_)
  have hi : i < ds.length := by rw [hl]; exact (List.getElem?_eq_some_iff.1 hd').1
  exact ih i _ d' (List.getElem?_eq_getElem hi) hd' (hr i _ u (List.getElem?_eq_getElem hi) hu)
 | tup ds ds' hl h ih =>
  intro v hm
  obtain ⟨vs, rfl, hsz, hr⟩ := hm.tup_inv
  refine .tup _ vs (by omega) (fun i d' u hd' hu => ?_)
  have hi : i < ds.length := by rw [hl]; exact (List.getElem?_eq_some_iff.1 hd').1
  exact ih i _ d' (List.getElem?_eq_getElem hi) hd' (hr i _ u (List.getElem?_eq_getElem hi) hu)
theorem aC.freezeR {kp r s0 : Nat} {cs : List D} {env env' : List D} {rt : List (Option Root)} (hr : rt[r]? = some (some ⟨false, s0, cs⟩)) (hl : env.length = env'.length) (h : ∀ i, Fz r cs (env.getD i .undef) (env'.getD i .undef)) :
  aC kp ⟨env, rt⟩ ⟨env', rt.set r none⟩ := by
 intro w0 a w hkp hf
 obtain ⟨own, hd, hlen, hs⟩ := hf
 have hrl : r < rt.length := (List.getElem?_eq_some_iff.1 hr).1
 have hR : aQ rt r = some (some ⟨false, s0, cs⟩) := hr
 have hs2 := hs.killE r (by rw [hR]; simp)
 have hrt : (aQ rt).set r none = aQ (rt.set r none) := by
  funext q
  unfold RT.set aQ
  split
  ·rename_i e; subst e; rw [List.getElem?_set_self hrl]
  ·rename_i e; rw [List.getElem?_set_ne (Ne.symm e)]
 have hs3 := hs2.put (env' := fun i => env'.getD i .undef) (tm' := fun i => a.tmps.getD i Go.undef) (fun i => .inr ((h i).mt hs hR (hs.env i)))
 rw [hrt] at hs3
 exact ⟨dC own r, hd, by simpa [← hl] using hlen, hs3⟩
end Go.Vm
