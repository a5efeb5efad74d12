/- Code as a whole; loops; functions: from obligations to contracts. -/
import Derived.Test.YtnonhialafcjmaaVm21
set_option linter.unusedVariables false
set_option linter.unusedSimpArgs false
set_option linter.unusedSectionVars false
namespace Go.Vm
open Go Go.RowKit

/-- A loop, from its head on: opened by 'loop_rule' or 'loop_peel'. -/
@[irreducible] def LoopK (P : Program) (kp : Nat) (body : Code) (Q : Exit → St → Prop) (st : St) : Prop :=
  ∀ (w0 : Base) (a : Act) (w : World), w0.keep = kp → Fits w0 st a w → ∀ b k cs, ∃ e a' w', (∃ st', Fits w0 st' a' w' ∧ Q e st') ∧ Arrives P (lone (b.at a (.code body :: .inLoop body :: k)) cs w) b k cs e a' w'

/-- What the code asks. -/
def vc (P : Program) (T : Tab) (kp : Nat) : Code → (Exit → St → Prop) → St → Prop
  | .skip, Q, st => Q .normal st
  | .region _ ops draw, Q, st => (match draw with
    | false => seqK P T ops.toList ops.toList st (Q .normal)
    | true => slotsOk ops = true ∧ drawK P T ops.toList ops.toList st (fun l => l) (Q .normal))
  | .seq x y, Q, st => vc P T kp x (fun e st' => match e with
    | .normal => vc P T kp y Q st'
    | e => Q e st') st
  | .cond c x y, Q, st => (match evO st.env c with
    | .kb true => vc P T kp x Q st
    | .kb false => vc P T kp y Q st
    | _ => False)
  | .block id c, Q, st => vc P T kp c (fun e st' => match e with
    | .exit j => (match Nat.beq j id with
      | true => Q .normal st'
      | false => Q (.exit j) st')
    | e => Q e st') st
  | .loop c, Q, st => forceS st (LoopK P kp c Q)
  | .exit id, Q, st => Q (.exit id) st
  | .label _, Q, st => Q .normal st
  | .ret, Q, st => Q .ret st
  | _, _, _ => False

section
variable {P : Program} {T : Tab} {kp : Nat}

theorem SVC.mono {c : Code} {Q Q' : Exit → St → Prop} {st : St} (h : SVC P kp c Q st) (hq : ∀ e st, Q e st → Q' e st) : SVC P kp c Q' st :=
  fun w0 a w hkp hf => wp_mono (h w0 a w hkp hf) (fun e _ _ ⟨st', h1, h2⟩ => ⟨st', h1, hq e st' h2⟩)

theorem vc_sound (hT : TabOk P T) (hm : P.follows .mixedOrders = true) : ∀ (c : Code) (Q : Exit → St → Prop) (st : St), vc P T kp c Q st → SVC P kp c Q st := by
  intro c
  induction c with
  | skip => intro Q st h w0 a w hkp hf; exact wp_skip ⟨st, hf, h⟩
  | region id ops draw =>
    intro Q st h
    simp only [vc] at h
    cases draw with
    | false => exact seq_region hT h (fun _ h => h)
    | true => exact draw_region hT hm h.1 h.2 (fun _ h => h)
  | seq x y ihx ihy =>
    intro Q st h w0 a w hkp hf
    simp only [vc] at h
    refine wp_seq (wp_mono (ihx _ _ h w0 a w hkp hf) (fun e a' w' hq => ?_))
    obtain ⟨st', hf', hq⟩ := hq
    cases e <;> first | exact ihy _ _ hq w0 a' w' hkp hf' | exact ⟨st', hf', hq⟩
  | cond c x y ihx ihy =>
    intro Q st h w0 a w hkp hf
    simp only [vc] at h
    obtain ⟨own, hd, hl, hs⟩ := hf
    have hc := evO_mt hs c
    split at h
    · rename_i e; rw [e] at hc
      exact wp_cond_true hc.kb_inv (ihx _ _ h w0 a w hkp ⟨own, hd, hl, hs⟩)
    · rename_i e; rw [e] at hc
      exact wp_cond_false hc.kb_inv (ihy _ _ h w0 a w hkp ⟨own, hd, hl, hs⟩)
    · exact h.elim
  | block id c ih =>
    intro Q st h w0 a w hkp hf
    simp only [vc] at h
    refine wp_block (wp_mono (ih _ _ h w0 a w hkp hf) (fun e a' w' hq => ?_))
    obtain ⟨st', hf', hq⟩ := hq
    cases e with
    | exit j =>
      simp only [Exit.inBlock]
      simp only at hq
      split at hq
      · rename_i hb; rw [Nat.beq_eq] at hb; rw [if_pos hb]; exact ⟨st', hf', hq⟩
      · rename_i hb
        rw [if_neg (fun e => by rw [e] at hb; simp at hb)]; exact ⟨st', hf', hq⟩
    | _ => exact ⟨st', hf', hq⟩
  | loop c ih =>
    intro Q st h
    simp only [vc, forceS_eq] at h
    unfold LoopK at h
    intro w0 a w hkp hf b k cs
    obtain ⟨e, a₁, w₁, hq, harr⟩ := h w0 a w hkp hf b k cs
    exact ⟨e, a₁, w₁, hq, .of_steps (.one step_loop) harr⟩
  | exit id => intro Q st h w0 a w hkp hf; exact wp_exit ⟨st, hf, h⟩
  | label l => intro Q st h w0 a w hkp hf; exact wp_label ⟨st, hf, h⟩
  | ret => intro Q st h w0 a w hkp hf; exact wp_ret ⟨st, hf, h⟩
  | _ => intro Q st h; exact h.elim

/-- A state that says less. -/
def Weak (kp : Nat) (st st2 : St) : Prop := ∀ (w0 : Base) a w, w0.keep = kp → Fits w0 st a w → Fits w0 st2 a w
theorem Weak.refl (st : St) : Weak kp st st := fun _ _ _ _ h => h
theorem Weak.trans {a b c : St} (h : Weak kp a b) (k : Weak kp b c) : Weak kp a c := fun w0 x w hkp hf => k w0 x w hkp (h w0 x w hkp hf)

theorem loop_rule (hT : TabOk P T) (hm : P.follows .mixedOrders = true) {body : Code} {Q : Exit → St → Prop} {st : St} {α : Type} (mk : α → St) (J : α → Prop) (μ : α → Nat) (x0 : α) (h0 : J x0) (hw : Weak kp st (mk x0))
    (round : ∀ x, J x → vc P T kp body (fun e st' => match e with
      | .normal => ∃ y, J y ∧ μ y < μ x ∧ Weak kp st' (mk y)
      | e => Q e st') (mk x)) : LoopK P kp body Q st := by
  unfold LoopK
  intro w0 a w hkp hf b k cs
  have key : ∀ n x a w, μ x = n → J x → Fits w0 (mk x) a w → ∃ e a' w', (∃ st', Fits w0 st' a' w' ∧ Q e st') ∧ Arrives P (lone (b.at a (.code body :: .inLoop body :: k)) cs w) b k cs e a' w' := by
    intro n
    induction n using Nat.strongRecOn with
    | _ n ih =>
      intro x a w hn hJ hfx
      have hr := vc_sound hT hm _ _ _ (round x hJ) w0 a w hkp hfx b (.inLoop body :: k) cs
      obtain ⟨e, a₁, w₁, ⟨st1, hf1, hq⟩, harr⟩ := hr
      cases e with
      | normal =>
        obtain ⟨y, hJy, hlt, hwk⟩ := hq
        obtain ⟨e₂, a₂, w₂, hq₂, harr₂⟩ := ih (μ y) (hn ▸ hlt) y a₁ w₁ rfl hJy (hwk w0 a₁ w₁ hkp hf1)
        exact ⟨e₂, a₂, w₂, hq₂, .of_steps (Steps.trans harr (.one step_inLoop)) harr₂⟩
      | exit id => exact ⟨_, a₁, w₁, ⟨st1, hf1, hq⟩, .pass (x := .inLoop body) rfl (fun _ _ => .inl (by simp)) harr⟩
      | goto l => exact ⟨_, a₁, w₁, ⟨st1, hf1, hq⟩, .pass (x := .inLoop body) rfl (fun _ _ => .inl (by simp)) harr⟩
      | ret => exact ⟨_, a₁, w₁, ⟨st1, hf1, hq⟩, .pass (x := .inLoop body) rfl (fun _ _ => .inl (by simp)) harr⟩
      | panic ch => exact ⟨_, a₁, w₁, ⟨st1, hf1, hq⟩, .pass (x := .inLoop body) rfl (fun _ _ => .inl (by simp)) harr⟩
      | outgrown => exact ⟨_, a₁, w₁, ⟨st1, hf1, hq⟩, .pass (x := .inLoop body) rfl (fun _ _ => .inl (by simp)) harr⟩
  exact key _ x0 a w rfl h0 (hw w0 a w hkp hf)

/-- A loop's first round by itself. -/
theorem loop_peel (hT : TabOk P T) (hm : P.follows .mixedOrders = true) {body : Code} {Q : Exit → St → Prop} {st : St}
    (h : vc P T kp body (fun e st' => match e with
      | .normal => forceS st' (LoopK P kp body Q)
      | e => Q e st') st) : LoopK P kp body Q st := by
  unfold LoopK
  intro w0 a w hkp hf b k cs
  obtain ⟨e, a₁, w₁, ⟨st1, hf1, hq⟩, harr⟩ := vc_sound hT hm _ _ _ h w0 a w hkp hf b (.inLoop body :: k) cs
  cases e with
  | normal =>
    simp only [forceS_eq] at hq
    unfold LoopK at hq
    obtain ⟨e₂, a₂, w₂, hq₂, harr₂⟩ := hq w0 a₁ w₁ hkp hf1 b k cs
    exact ⟨e₂, a₂, w₂, hq₂, .of_steps (Steps.trans harr (.one step_inLoop)) harr₂⟩
  | exit id => exact ⟨_, a₁, w₁, ⟨st1, hf1, hq⟩, .pass (x := .inLoop body) rfl (fun _ _ => .inl (by simp)) harr⟩
  | goto l => exact ⟨_, a₁, w₁, ⟨st1, hf1, hq⟩, .pass (x := .inLoop body) rfl (fun _ _ => .inl (by simp)) harr⟩
  | ret => exact ⟨_, a₁, w₁, ⟨st1, hf1, hq⟩, .pass (x := .inLoop body) rfl (fun _ _ => .inl (by simp)) harr⟩
  | panic ch => exact ⟨_, a₁, w₁, ⟨st1, hf1, hq⟩, .pass (x := .inLoop body) rfl (fun _ _ => .inl (by simp)) harr⟩
  | outgrown => exact ⟨_, a₁, w₁, ⟨st1, hf1, hq⟩, .pass (x := .inLoop body) rfl (fun _ _ => .inl (by simp)) harr⟩

end
end Go.Vm
