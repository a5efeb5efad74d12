/- The evaluator is sound: slices, indexes, fields, loads. -/
import Derived.Test.YtnonhialafcjmaaVm8
set_option linter.unusedVariables false
set_option linter.unusedSimpArgs false
set_option linter.unusedSectionVars false
namespace Go.Vm
open Go Go.RowKit

theorem elemIs_eq {T : Tab} {e sz : Nat} (h : elemIs T e sz = true) : (T.get e).size = sz ∧ sz ≠ 0 := by
  simp only [elemIs, Bool.and_eq_true, Bool.not_eq_true', ← Bool.not_eq_true, Nat.beq_eq] at h
  exact h
theorem nz {b : Nat} (h : (!Nat.beq b 0) = true) : b ≠ 0 := by simpa only [Bool.not_eq_true', ← Bool.not_eq_true, Nat.beq_eq] using h
theorem cnt_eq {sz : Nat} (cs : List D) : cnt sz cs = cs.length / sz := by
  unfold cnt; split
  · rename_i h; simp at h; subst h; simp
  · rfl
theorem cnt_mul {sz len : Nat} {cs : List D} (hz : sz ≠ 0) (h : len * sz = cs.length) : cnt sz cs = len := by
  rw [cnt_eq, ← h, Nat.mul_div_cancel _ (by omega)]

section
variable {P : Program} {T : Tab} {w0 : Base} {w : World} {env : List D} {rt : RT} {own : Nat → Option Lab} {a : Act} {n : Nat} {o : Oper} {K : Res → Prop} {Kc : Act → World → Prop} {Q : Exit → Act → World → Prop}

theorem run_bound (k : IntKind) (i : Int) (y : Nat) (c : BoundsCode) (h0 : 0 ≤ i) (h1 : i ≤ y) : (Instr.sliceBound (.int k i) y c).run P w = .ok i.toNat w := by
  simp [Instr.sliceBound, asIntOf, h0, h1]

theorem run_slice_hi {t e : TypeId} {i : TypeInfo} (hu : P.underlying t = some (.slice e)) (hi : P.info? e = some i) (ad : Option Addr) (m cap : Nat) (k : IntKind) (h : Int) (h0 : 0 ≤ h) (h1 : h ≤ cap) :
    (Instr.sliceAt t (.slice ad m cap) none (some (.int k h)) none).run P w = .ok (.slice (if cap = 0 then ad else ad.map (·.add (0 * i.size))) (h.toNat - 0) (cap - 0)) w := by
  simp [Instr.sliceAt, Instr.slice, Instr.sliceBounds, run_underlying hu, run_bound k h cap _ h0 h1, sizeOf, typeInfo, hi]

theorem run_slice_lo {t e : TypeId} {i : TypeInfo} (hu : P.underlying t = some (.slice e)) (hi : P.info? e = some i) (ad : Option Addr) (m cap : Nat) (k : IntKind) (l : Int) (h0 : 0 ≤ l) (h1 : l ≤ m) :
    (Instr.sliceAt t (.slice ad m cap) (some (.int k l)) none none).run P w = .ok (.slice (if cap = l.toNat then ad else ad.map (·.add (l.toNat * i.size))) (m - l.toNat) (cap - l.toNat)) w := by
  simp [Instr.sliceAt, Instr.slice, Instr.sliceBounds, run_underlying hu, run_bound k l m _ h0 h1, sizeOf, typeInfo, hi]

theorem run_slice_both {t e : TypeId} {i : TypeInfo} (hu : P.underlying t = some (.slice e)) (hi : P.info? e = some i) (ad : Option Addr) (m cap : Nat) (k k' : IntKind) (l h : Int) (h0 : 0 ≤ l) (h1 : l ≤ h) (h2 : h ≤ cap) :
    (Instr.sliceAt t (.slice ad m cap) (some (.int k l)) (some (.int k' h)) none).run P w = .ok (.slice (if cap = l.toNat then ad else ad.map (·.add (l.toNat * i.size))) (h.toNat - l.toNat) (cap - l.toNat)) w := by
  have h3 : l ≤ (h.toNat : Int) := by omega
  simp [Instr.sliceAt, Instr.slice, Instr.sliceBounds, run_underlying hu, run_bound k' h cap _ (by omega) h2, run_bound k l h.toNat _ h0 h3, sizeOf, typeInfo, hi]

/-- The handle of a part of a row. -/
theorem RefOk.part {r sz off m : Nat} {p : List Nat} {v : Value} (h : RefOk w own r p sz off m v) (l m' : Nat) (hl : l ≤ m) (hm : l + m' ≤ m) :
    ∃ ad m0 cap, v = .slice ad m0 cap ∧ m0 = m ∧ m ≤ cap ∧ RefOk w own r p sz (off + l) m' (.slice (if cap = l then ad else ad.map (·.add (l * sz))) m' (cap - l)) := by
  rcases h with ⟨b, arr, e, cap, q, hb, hw, hv, hc, hs, ho⟩ | ⟨hv, h1, h2, h3⟩
  · refine ⟨_, _, cap, hv, rfl, hc, .inl ⟨b, arr, e, cap - l, if cap = l then q else q + l * sz, hb, hw, ?_, by omega, ?_, fun h => ?_⟩⟩
    · split <;> simp [Addr.add_off]
    · rw [← hs]; congr 1; omega
    · rcases h with h | h
      · obtain ⟨rfl, rfl⟩ : off = 0 ∧ l = 0 := by omega
        have := ho (.inl rfl)
        subst this; simp
      · have := ho (.inr (by omega))
        rw [if_neg (by omega), this, Nat.add_mul]
  · refine ⟨none, 0, 0, hv, h2.symm, by omega, .inr ⟨?_, by omega, by omega, h3⟩⟩
    obtain ⟨rfl, rfl⟩ : l = 0 ∧ m' = 0 := by omega
    simp

theorem Sh.part {ok : Nat → Prop} {ob : Bool} {sz : Nat} {cs : List D} {v : Value} (hz : sz ≠ 0) (h : Sh w ok (.list ob sz cs) v) (l m' : Nat) (hl : l ≤ cnt sz cs) (hm : l + m' ≤ cnt sz cs) :
    ∃ ad m0 cap, v = .slice ad m0 cap ∧ m0 = cnt sz cs ∧ m0 ≤ cap ∧ Sh w ok (.list ob sz (sub cs sz l m')) (.slice (if cap = l then ad else ad.map (·.add (l * sz))) m' (cap - l)) := by
  cases h with
  | nil =>
    have hc : cnt sz ([] : List D) = 0 := by simp [cnt_eq]
    rw [hc] at hl hm
    obtain ⟨rfl, rfl⟩ : l = 0 ∧ m' = 0 := by omega
    exact ⟨none, 0, 0, rfl, hc.symm, Nat.le_refl _, by simp [sub]; exact .nil ob sz⟩
  | wild _ _ ad =>
    have hc : cnt sz ([] : List D) = 0 := by simp [cnt_eq]
    rw [hc] at hl hm
    obtain ⟨rfl, rfl⟩ : l = 0 ∧ m' = 0 := by omega
    exact ⟨some ad, 0, 0, rfl, hc.symm, Nat.le_refl _, by simp [sub]; exact .wild ob sz ad⟩
  | list _ _ _ b off len cap hlen hlc hb hc hr =>
    have hcn := cnt_mul hz hlen
    rw [hcn] at hl hm ⊢
    refine ⟨_, _, cap, rfl, rfl, hlc, ?_⟩
    have hsl : (sub cs sz l m').length = m' * sz := by
      have h1 : (l + m') * sz ≤ cs.length := by rw [← hlen]; exact Nat.mul_le_mul_right _ hm
      rw [Nat.add_mul] at h1
      simp only [sub, List.length_take, List.length_drop]; omega
    by_cases hcl : cap = l
    · have hm0 : m' = 0 := by omega
      subst hm0
      have hnil : sub cs sz l 0 = [] := List.eq_nil_of_length_eq_zero (by rw [hsl]; simp)
      rw [if_pos hcl, hnil]
      exact .list ob sz [] b off 0 (cap - l) (by simp) (by omega) hb (fun i h => by simp at h) (fun i d v h => by simp at h)
    · rw [if_neg hcl]
      simp only [Option.map_some, Addr.add_off]
      have hidx : ∀ i, i < m' * sz → (sub cs sz l m')[i]? = cs[l * sz + i]? := fun i hi => by
        simp only [sub, List.getElem?_take, if_pos hi, List.getElem?_drop]
      have hle : l * sz + m' * sz ≤ cs.length := by
        have h1 : (l + m') * sz ≤ cs.length := by rw [← hlen]; exact Nat.mul_le_mul_right _ hm
        rwa [Nat.add_mul] at h1
      refine .list ob sz _ b (off + l * sz) m' (cap - l) hsl.symm (by omega) hb (fun i hi => ?_) (fun i d v hd hv => ?_)
      · rw [hsl] at hi
        have := hc (l * sz + i) (by omega)
        rwa [← Nat.add_assoc] at this
      · have hi : i < m' * sz := by rw [← hsl]; exact (List.getElem?_eq_some_iff.1 hd).1
        rw [hidx i hi] at hd
        exact hr (l * sz + i) d v hd (by rw [← Nat.add_assoc]; exact hv)

theorem slice_sound (hT : TabOk P T) (hs : Sim w0 (fun i => env.getD i .undef) rt (fun i => a.tmps.getD i Go.undef) w own) (hg : Goal w0 env rt n a o.dst K Kc) (t : TypeId) (x : Operand) (lo hi mx : Option Operand)
    (ho : o.op = .slice t x lo hi mx) (h : sliceK T rt t (evO env x) (lo.map (evO env)) (hi.map (evO env)) (mx.map (evO env)) K) : o.wp P a w Kc Q := by
  have hx := evO_mt hs x
  unfold sliceK at h
  have hint : ∀ (y : Operand) (k : IntKind) (c : Int), evO env y = .lit (.int k c) → a.eval y = .int k c := fun y k c e => by
    have := evO_mt hs y; rw [e] at this; exact this.lit_inv
  split at h
  · rename_i e r p sz off m hty hxe
    have h1 := chk_and h; clear h; obtain ⟨hc, h⟩ := h1
    simp only [Bool.and_eq_true] at hc
    obtain ⟨hes, hz⟩ := elemIs_eq hc.1
    obtain ⟨i, d, _, hu, _, _, _, htd⟩ := hT.info (nz hc.2)
    rw [hty] at htd
    have := Ty.ofDesc_slice htd.symm; subst this
    obtain ⟨ie, _, hie, _, hsz, _⟩ := hT.info (t := e) (by rw [hes]; exact hz)
    rw [hes] at hsz
    rw [hxe] at hx
    obtain ⟨h0, href⟩ := hx.ref_inv
    split at h
    · rename_i R hR
      have hro := href R hR
      split at h
      · rename_i hh hlo hhi hmx
        cases lo <;> cases hi <;> cases mx <;> simp at hlo hhi hmx
        rename_i yh
        obtain ⟨hb, h⟩ := h
        obtain ⟨ad, m0, cap, hv, hm0, hcap, hro'⟩ := hro.part 0 hh.toNat (by omega) (by omega)
        refine quiet_sound hs hg h (.ref _ _ _ _ _ _ h0 rfl (fun R' hR' => ⟨hx.ref_path R' hR', hro'⟩)) ?_
        have hr := run_slice_hi (P := P) (w := w) hu hie ad m0 cap .i64 hh hb.1 (by omega)
        simp only [execOp, ho, Option.map_none, Option.map_some, hint _ _ _ hhi, hv]
        simp [hr, hsz]
      · rename_i l hlo hhi hmx
        cases lo <;> cases hi <;> cases mx <;> simp at hlo hhi hmx
        rename_i yl
        obtain ⟨hb, h⟩ := h
        obtain ⟨ad, m0, cap, hv, hm0, hcap, hro'⟩ := hro.part l.toNat (m - l.toNat) (by omega) (by omega)
        refine quiet_sound hs hg h (.ref _ _ _ _ _ _ h0 rfl (fun R' hR' => ⟨hx.ref_path R' hR', hro'⟩)) ?_
        have hr := run_slice_lo (P := P) (w := w) hu hie ad m0 cap .i64 l hb.1 (by omega)
        simp only [execOp, ho, Option.map_none, Option.map_some, hint _ _ _ hlo, hv]
        rw [hm0] at hr ⊢
        simp [hr, hsz]
      · rename_i l hh hlo hhi hmx
        cases lo <;> cases hi <;> cases mx <;> simp at hlo hhi hmx
        rename_i yl yh
        obtain ⟨hb, h⟩ := h
        obtain ⟨ad, m0, cap, hv, hm0, hcap, hro'⟩ := hro.part l.toNat (hh.toNat - l.toNat) (by omega) (by omega)
        refine quiet_sound hs hg h (.ref _ _ _ _ _ _ h0 rfl (fun R' hR' => ⟨hx.ref_path R' hR', hro'⟩)) ?_
        have hr := run_slice_both (P := P) (w := w) hu hie ad m0 cap .i64 .i64 l hh hb.1 hb.2.1 (by omega)
        simp only [execOp, ho, Option.map_none, Option.map_some, hint _ _ _ hlo, hint _ _ _ hhi, hv]
        simp [hr, hsz]
      · exact h.elim
    · exact h.elim
  · rename_i e ob sz cs hty hxe
    have h1 := chk_and h; clear h; obtain ⟨hc, h⟩ := h1
    simp only [Bool.and_eq_true] at hc
    obtain ⟨hes, hz⟩ := elemIs_eq hc.1
    obtain ⟨i, d, _, hu, _, _, _, htd⟩ := hT.info (nz hc.2)
    rw [hty] at htd
    have := Ty.ofDesc_slice htd.symm; subst this
    obtain ⟨ie, _, hie, _, hsz, _⟩ := hT.info (t := e) (by rw [hes]; exact hz)
    rw [hes] at hsz
    rw [hxe] at hx
    have hsh := hx.list_inv
    split at h
    · rename_i hh hlo hhi hmx
      cases lo <;> cases hi <;> cases mx <;> simp at hlo hhi hmx
      obtain ⟨hb, cs', rfl, h⟩ := h
      obtain ⟨ad, m0, cap, hv, hm0, hcap, hro'⟩ := hsh.part hz 0 hh.toNat (by omega) (by omega)
      refine quiet_sound hs hg h (.sh _ _ hro') ?_
      have hr := run_slice_hi (P := P) (w := w) hu hie ad m0 cap .i64 hh hb.1 (by omega)
      simp only [execOp, ho, Option.map_none, Option.map_some, hint _ _ _ hhi, hv]
      simp [hr, hsz]
    · rename_i l hlo hhi hmx
      cases lo <;> cases hi <;> cases mx <;> simp at hlo hhi hmx
      obtain ⟨hb, cs', rfl, h⟩ := h
      obtain ⟨ad, m0, cap, hv, hm0, hcap, hro'⟩ := hsh.part hz l.toNat (cnt sz cs - l.toNat) (by omega) (by omega)
      refine quiet_sound hs hg h (.sh _ _ hro') ?_
      have hr := run_slice_lo (P := P) (w := w) hu hie ad m0 cap .i64 l hb.1 (by omega)
      simp only [execOp, ho, Option.map_none, Option.map_some, hint _ _ _ hlo, hv]
      rw [hm0] at hr ⊢
      simp [hr, hsz]
    · rename_i l hh hlo hhi hmx
      cases lo <;> cases hi <;> cases mx <;> simp at hlo hhi hmx
      obtain ⟨hb, cs', rfl, h⟩ := h
      obtain ⟨ad, m0, cap, hv, hm0, hcap, hro'⟩ := hsh.part hz l.toNat (hh.toNat - l.toNat) (by omega) (by omega)
      refine quiet_sound hs hg h (.sh _ _ hro') ?_
      have hr := run_slice_both (P := P) (w := w) hu hie ad m0 cap .i64 .i64 l hh hb.1 hb.2.1 (by omega)
      simp only [execOp, ho, Option.map_none, Option.map_some, hint _ _ _ hlo, hint _ _ _ hhi, hv]
      simp [hr, hsz]
    · exact h.elim
  · exact h.elim

end
end Go.Vm
