import Derived.Test.YtghcpginhamelaaGreatVm32
set_option linter.unusedVariables false
set_option linter.unusedSimpArgs false
set_option linter.unusedSectionVars false
namespace Go.Vm
open Go Go.RowKit
def C4 (T : Tab) (fn : Func) (rs : D) : Exit → St → Prop := fun e st' => (e = .ret ∨ e = .normal) ∧ kV T st'.env (aQ st'.rt) fn.results.toList fun ds => qY (aQ st'.rt) (iK ds) fun rs' => rs' = rs
def lW : Code → List Code
 | .seq x y => lW x ++ lW y
 | c => [c]
def mD (fn : Func) : Code := match fn.body with
 | some c => c
 | none => .skip
section
variable {P : Program} {T : Tab} {kp : Nat}
def dI (P : Program) (kp : Nat) : List Code → (Exit → St → Prop) → St → Prop
 | [], Q, st => ∃ st', aC kp st st' ∧ Q .normal st'
 | c :: cs, Q, st => dJ P kp c (fun e st' => match e with
  | .normal => dI P kp cs Q st'
  | e => Q e st') st
theorem dJ.weak {c : Code} {Q : Exit → St → Prop} {st st2 : St} (hw : aC kp st st2) (h : dJ P kp c Q st2) : dJ P kp c Q st := fun w0 a w hkp hf => h w0 a w hkp (hw w0 a w hkp hf)
theorem dI.weak {cs : List Code} {Q : Exit → St → Prop} {st st2 : St} (hw : aC kp st st2) (h : dI P kp cs Q st2) : dI P kp cs Q st := by
 cases cs with
 | nil => obtain ⟨st', h1, h2⟩ := h; exact ⟨st', hw.trans h1, h2⟩
 | cons c cs => exact dJ.weak hw h
theorem dJ.seqS {x y : Code} {Q : Exit → St → Prop} {st : St} (h : dJ P kp x (fun e st' => match e with
  | .normal => dJ P kp y Q st'
  | e => Q e st') st) : dJ P kp (.seq x y) Q st := by
 intro w0 a w hkp hf
 refine wp_seq (wp_mono (h w0 a w hkp hf) (fun e a' w' hq => ?_))
 obtain ⟨st', hf', hq⟩ := hq
 cases e <;> first | exact hq w0 a' w' hkp hf' | exact ⟨st', hf', hq⟩
theorem dI.app : ∀ {a b : List Code} {Q : Exit → St → Prop} {st : St}, dI P kp (a ++ b) Q st → dI P kp a (fun e st' => match e with
  | .normal => dI P kp b Q st'
  | e => Q e st') st
 | [], b, Q, st, h => ⟨st, aC.refl st, h⟩
 | c :: a, b, Q, st, h => dJ.mono h (fun e st' h => by
  cases e
  case normal => exact dI.app (a := a) h
  all_goals exact h)
theorem dI.monoQ : ∀ {a : List Code} {Q Q' : Exit → St → Prop} {st : St}, dI P kp a Q st → (∀ e st, Q e st → Q' e st) → dI P kp a Q' st
 | [], Q, Q', st, ⟨st', h1, h2⟩, hq => ⟨st', h1, hq _ _ h2⟩
 | c :: a, Q, Q', st, h, hq => dJ.mono h (fun e st' h => by
  cases e
  case normal => exact dI.monoQ (a := a) h hq
  all_goals exact hq _ _ h)
theorem dI.one {c : Code} {Q : Exit → St → Prop} {st : St} (h : dI P kp [c] Q st) : dJ P kp c Q st := fun w0 a w hkp hf =>
 wp_mono (h w0 a w hkp hf) (fun e a' w' ⟨st', hf', hq⟩ => by
  cases e
  case normal => obtain ⟨st2, h1, h2⟩ := hq; exact ⟨st2, h1 w0 a' w' hkp hf', h2⟩
  all_goals exact ⟨st', hf', hq⟩)
theorem dI.flat : ∀ (c : Code) {Q : Exit → St → Prop} {st : St}, dI P kp (lW c) Q st → dJ P kp c Q st := by
 intro c
 induction c with
 | seq x y ihx ihy =>
  intro Q st h
  refine dJ.seqS (dJ.mono (ihx (dI.app h)) (fun e st' h => ?_))
  cases e
  case normal => exact ihy h
  all_goals exact h
 | skip => intro Q st h; exact h.one
 | region id ops draw => intro Q st h; exact h.one
 | cond c x y ihx ihy => intro Q st h; exact h.one
 | _ => intro Q st h; exact dI.one h
noncomputable def zL (P : Program) (T : Tab) (kp : Nat) (cs : List Code) : (Exit → St → Prop) → St → Prop :=
 List.rec (motive := fun _ => (Exit → St → Prop) → St → Prop) (fun Q st => Q .normal st) (fun c _ ih Q st => iH P T kp c (fun e st' => match e with
  | .normal => ih Q st'
  | e => Q e st') st) cs
theorem G2 (hT : TabOk P T) (hm : P.follows .mixedOrders = true) : ∀ (cs : List Code) (Q : Exit → St → Prop) (st : St), zL P T kp cs Q st → dI P kp cs Q st
 | [], Q, st, h => ⟨st, aC.refl st, h⟩
 | c :: cs, Q, st, h => by
  have h1 : iH P T kp c (fun e st' => match e with
   | .normal => zL P T kp cs Q st'
   | e => Q e st') st := h
  rw [rR] at h1
  refine dJ.mono (uI hT hm c _ _ h1) (fun e st' h => ?_)
  cases e
  case normal => exact G2 hT hm cs Q st' h
  all_goals exact h
@[irreducible] def dF (P : Program) (kp : Nat) (fn : Func) (n : Nat) (Q : Exit → St → Prop) (st : St) : Prop := dI P kp ((lW (mD fn)).drop n) Q st
theorem dF.weak {fn : Func} {n : Nat} {Q : Exit → St → Prop} {st st2 : St} (h : dF P kp fn n Q st2) (hw : aC kp st st2) : dF P kp fn n Q st := by
 unfold dF at h ⊢
 exact dI.weak hw h
theorem pO (hT : TabOk P T) (hm : P.follows .mixedOrders = true) (fn : Func) (n k : Nat) {Q : Exit → St → Prop} {st : St} (h : zL P T kp (((lW (mD fn)).drop n).take k) (fun e st' => match e with
  | .normal => cJ st' (dF P kp fn (n + k) Q)
  | e => Q e st') st) : dF P kp fn n Q st := by
 unfold dF
 have h1 := G2 hT hm _ _ _ h
 have e : (lW (mD fn)).drop n = ((lW (mD fn)).drop n).take k ++ (lW (mD fn)).drop (n + k) := by
  rw [← List.drop_drop, List.take_append_drop]
 rw [e]
 generalize ((lW (mD fn)).drop n).take k = a at h1
 revert h1
 generalize hb : (lW (mD fn)).drop (n + k) = b
 have key : ∀ st', cJ st' (dF P kp fn (n + k) Q) → dI P kp b Q st' := fun st' h => by
  rw [gT] at h
  unfold dF at h
  rwa [hb] at h
 have app' : ∀ (a : List Code) (Q2 : Exit → St → Prop) (st : St), dI P kp a (fun e st' => match e with
  | .normal => dI P kp b Q2 st'
  | e => Q2 e st') st → dI P kp (a ++ b) Q2 st := by
  intro a
  induction a with
  | nil => intro Q2 st ⟨st', h1, h2⟩; exact dI.weak h1 h2
  | cons c a ih =>
   intro Q2 st h
   refine dJ.mono h (fun e st' h => ?_)
   cases e
   case normal => exact ih Q2 st' h
   all_goals exact h
 intro h1
 refine app' a Q st (dI.monoQ h1 (fun e st' h => ?_))
 cases e
 case normal => exact key st' h
 all_goals exact h
theorem U4 (hT : TabOk P T) (hm : P.follows .mixedOrders = true) (fn : Func) (n : Nat) {Q : Exit → St → Prop} {st : St} (h : zL P T kp ((lW (mD fn)).drop n) Q st) : dF P kp fn n Q st := by
 unfold dF
 exact G2 hT hm _ _ _ h
end
theorem Asb {P : Program} {T : Tab} {f : FuncId} {fn : Func} {c : Code} {args : List D} {rs : D} (hfn : P.funcs[f]? = some fn) (hb : fn.body = some c)
  (hname : (fn.name == "runtime.NumGoroutine") = false) (hT : TabOk P T)
  (h : dJ P 0 c (C4 T fn rs)
   ⟨args ++ List.replicate (fn.ntmps - args.length) .undef, []⟩) : aL P f args rs := by
 intro w vals n hsz hargs
 refine .inl ⟨fn, hfn, hname, by rw [hb]; rfl, calls_of_wp hfn hb ?_⟩
 let w0 : Base := { toWorld := w, prot := fun b => b < w.heap.size, hp := fun _ h => h, hid := fun _ => False, hh := fun _ h => h.elim, hl := fun _ => (0, []), susp := fun _ _ => False, keep := 0, hk := fun _ _ h => h.elim, hlk := fun _ h => h.elim }
 let a1 : Act := { tmps := vals ++ Array.replicate (fn.ntmps - vals.size) Go.undef, defers := [] }
 have hfit : Fits w0 ⟨args ++ List.replicate (fn.ntmps - args.length) .undef, []⟩ a1 w := by
  refine ⟨fun _ => none, rfl, by simp [a1, hsz], ⟨Kept.refl _ _, fun i => ?_, fun r R h => by simp [aQ] at h, fun b r p h => by simp at h, fun b hb => hb.elim, fun b b' l h => by simp at h, fun d v hp => hp.elim⟩⟩
  show Mt w _ _ _ ((args ++ List.replicate (fn.ntmps - args.length) D.undef).getD i D.undef) (a1.tmps.getD i Go.undef)
  rw [List.getD_eq_getElem?_getD]
  by_cases hi : i < args.length
  ·rw [List.getElem?_append_left hi, List.getElem?_eq_getElem hi, Option.getD_some]
   have hi2 : i < vals.size := by rw [hsz]; exact hi
   have e1 : a1.tmps.getD i Go.undef = vals[i] := by
    simp only [a1, Array.getD_eq_getD_getElem?]
    rw [Array.getElem?_append_left hi2, Array.getElem?_eq_getElem hi2]; rfl
   rw [e1]
   exact .sh _ _ ((hargs i _ _ (List.getElem?_eq_getElem hi) (Array.getElem?_eq_getElem hi2)).frame (fun b hb => ⟨⟨rfl, hb⟩, rfl⟩))
  ·rw [List.getElem?_append_right (by omega), List.getElem?_replicate]
   split <;> exact .undef _
 refine wp_mono (h w0 a1 w rfl hfit) (fun e a' w' hpost => ?_)
 obtain ⟨st', ⟨own', hd', hl', hs'⟩, he, hres⟩ := hpost
 have hres' : ∃ d v, qY (aQ st'.rt) d (fun rs' => rs' = rs) ∧ Mt w' (okb w' own') own' (aQ st'.rt) d v ∧ (results fn a'.tmps).run P w' = .ok v w' := by
  obtain ⟨ds, vs, h1, h2, h3, h4, h5⟩ := M1 (P := P) hT hs' _ _ hres
  refine ⟨iK ds, if h : vs.toArray.size = 1 then vs.toArray[0] else .tuple vs.toArray, h1, ?_, ?_⟩
  ·by_cases hl : vs.length = 1
   ·obtain ⟨v, rfl⟩ := List.length_eq_one_iff.1 hl
    obtain ⟨d, rfl⟩ := List.length_eq_one_iff.1 (show ds.length = 1 by rw [h3, ← h2]; rfl)
    exact h4 0 d v rfl rfl
   ·have e1 : iK ds = .tup ds := by
     match ds, h3 with
     | [], _ => rfl
     | [d], h3 => exact absurd (by rw [h2, ← h3]; rfl) hl
     | _ :: _ :: _, _ => rfl
    rw [e1, dif_neg (by simpa using hl)]
    exact .tup _ _ (by simp [h2, h3]) (fun i d v k1 k2 => h4 i d v k1 (by simpa using k2))
  ·rw [K6, Array.mapM_eq_mapM_toList]
   simp [Sem.run_bind, h5]
 obtain ⟨d, v, hk, hm, hr⟩ := hres'
 obtain ⟨rs', e, hrn⟩ := Aa4 hs' (fun _ h => h) hm hk
 subst e
 have hfin : (∃ v', Ending.returned v = .returned v' ∧ Below w.heap.size w w' ∧ mC w w' n rs' v') := ⟨v, rfl, hs'.below.below (fun _ h => h), hrn n⟩
 rcases he with rfl | rfl
 ·exact ⟨hd', v, hr, hfin⟩
 ·exact ⟨hd', v, hr, hfin⟩
theorem Abn {P : Program} {T : Tab} {f : FuncId} {args : List D} {rs : D} (fn : Func) {c : Code} (hfn : P.funcs[f]? = some fn) (hb : fn.body = some c) (hname : (fn.name == "runtime.NumGoroutine") = false) (hT : TabOk P T)
  (h : dF P 0 fn 0 (C4 T fn rs) ⟨args ++ List.replicate (fn.ntmps - args.length) .undef, []⟩) : aL P f args rs := by
 unfold dF at h
 have e : mD fn = c := by unfold mD; rw [hb]
 rw [List.drop_zero, e] at h
 exact Asb hfn hb hname hT (dI.flat c h)
abbrev Aph (n : Nat) (cs : List (Nat × D)) (rt : List (Option Root)) : St := iB 1 ⟨J9 cs (List.replicate n .undef), rt⟩
end Go.Vm
