import Derived.Test.YtghcpginhamelaaGreatVm28
import Derived.OpenShut
import Derived.ChangeOld
import Derived.Below
import Derived.Carry
import Derived.Deep.Slices
set_option linter.unusedVariables false
set_option linter.unusedSimpArgs false
set_option linter.unusedSectionVars false
namespace Go.Vm
open Go Go.RowKit Go.ChangeShapes Go.WideShapes Go.ChangeAt Go.Deep
section
variable {H : Type} {enc : TypeId × Value → H} {P : Program}
theorem Afv (hl : laidOutB P = true) {W W' : World} (hb : Below W.heap.size W W') : ∀ (ts : List TypeId) (vs : List Value) (ds : List (DataW H)) (p : List MemPlace), (ts.all fun t => P.readableRec t && decide (t < P.types.size)) = true →
  DataW.TrodAll enc P W 0 (fun _ => true) true ts vs ds p → DataW.TrodAll enc P W' 0 (fun b => decide (b < W.heap.size)) true ts vs ds p
 | [], vs, ds, p, _, h => by obtain ⟨rfl, rfl, rfl⟩ := trodAll_nil h; exact trodAll_mk0
 | t :: ts, vs, ds, p, ht, h => by
  obtain ⟨v, vs', d, ds', p0, q0, rfl, rfl, rfl, h0, h1⟩ := trodAll_cons h
  simp only [List.all_cons, Bool.and_eq_true, decide_eq_true_eq] at ht
  have lt0 : ∀ x ∈ p0, x.block < W.heap.size := by obtain ⟨m, hm⟩ := h0; exact DataW.trod_lt m _ _ _ hm
  refine trodAll_cons_mk (Below.trod hl ht.1.1 ht.1.2 h0 hb lt0) (Afv hl hb ts vs' ds' q0 ?_ h1)
  simpa using ht.2
theorem Agk {w : World} {a : Addr} {v : Value} (h : w.cell? a = some v) : a = ⟨a.block, a.off, none⟩ ∧ a.block < w.heap.size := by
 unfold World.cell? at h
 split at h
 ·rename_i c t f hc
  split at h
  ·cases h
  ·rename_i hs
   obtain ⟨b, o, sp⟩ := a
   simp at hs
   subst hs
   exact ⟨rfl, (Array.getElem?_eq_some_iff.1 hc).1⟩
 ·cases h
theorem Ajo {w : World} {t e : TypeId} {base fuel : Nat} {held : Bool} {v : Value} {x : DataW H × List MemPlace} (ht : P.underlying t = some (.slice e)) (hce : P.cellsOf e = 1) (he : P.underlying e = some (.int .u8))
  (h : DataW.trod enc P w base (fun _ => true) held fuel t [v] = some x) :
  ∃ l : List Nat, Sh w (fun b => b < w.heap.size) (.list false 1 (l.map fun (b : Nat) => D.lit (Value.int IntKind.u8 (b : Int)))) v ∧ (∀ b ∈ l, b < 256) ∧ l.length ≤ maxLen := by
 rcases open_slice1 ht hce h with ⟨hcs, _⟩ | ⟨a, len, cap, m, n, V, D, Pl, hcs, _, hl, hm, hmm, _, hcell⟩
 ·simp only [List.cons.injEq, and_true] at hcs
  subst hcs
  exact ⟨[], .nil false 1, fun n hn => by simp at hn, by simp⟩
 ·simp only [List.cons.injEq, and_true] at hcs
  subst hcs
  simp only [if_true] at hmm
  subst hmm
  by_cases hcap : m = 0
  ·have hl0 : len = 0 := by omega
   subst hcap; subst hl0
   exact ⟨[], .wild false 1 a, fun n hn => by simp at hn, by simp⟩
  ·obtain ⟨ea, hb⟩ := Agk (hcell 0 (by omega)).1
   have e0 : a.add 0 = a := by simp [Addr.add]
   rw [e0] at ea hb
   have hadd : ∀ i, a.add i = ⟨a.block, a.off + i, none⟩ := fun i => by
    rw [ea, Addr.add_off]
   simp only [hadd] at hcell
   obtain ⟨L, hL⟩ := choose_lt (α := Nat) (n := len) (p := fun k l => V k = .int .u8 (l : Int) ∧ l < 256) (fun k hk => by
    obtain ⟨z, h1, _, h2⟩ := DataW.trod_int he (hcell k (by omega)).2
    simp only [List.cons.injEq, and_true] at h1
    simp only [Lit.wf, Bool.and_eq_true, decide_eq_true_eq] at h2
    have h3 : (0 : Int) ≤ z ∧ z ≤ 255 := h2
    exact ⟨z.toNat, by rw [h1, Int.toNat_of_nonneg (by omega)], by omega⟩)
   have hlen : ((List.range len).map L).length = len := by simp
   refine ⟨(List.range len).map L, ?_, fun b hb2 => ?_, by rw [hlen]; omega⟩
   ·rw [ea]
    refine .list false 1 _ a.block a.off len m (by simp) hl hb (fun k hk => ?_) (fun k d v hd hv => ?_)
    ·have hk' : k < len := by simpa using hk
     rw [(hcell k (by omega)).1]; rfl
    ·have hk' : k < len := by
      have := tX hd
      simpa using this
     have hx := (hcell k (by omega)).1
     rw [hv] at hx
     simp only [Option.some.injEq] at hx
     subst hx
     rw [(hL k hk').1]
     simp [hk'] at hd
     subst hd
     exact .lit _
   ·obtain ⟨k, hk, rfl⟩ := List.mem_map.1 hb2
    exact (hL k (List.mem_range.1 hk)).2
theorem Apb {w : World} {t e : TypeId} {base b0 : Nat} {held : Bool} {r : Reach} {v : Value} {d : DataW H} {ps : List MemPlace} (ht : P.underlying t = some (.slice e)) (he : P.underlying e = some (.int .u8)) (hc : P.cellsOf e = 1)
  (hok : Value.okWide P w r b0 t v) (h : DataW.Trod enc P w base (fun _ => true) held t v d ps) :
  ∃ l : List Nat, Sh w (fun b => b < w.heap.size) (.list false 1 (l.map fun (b : Nat) => D.lit (Value.int IntKind.u8 (b : Int)))) v ∧ (∀ b ∈ l, b < 256) ∧ l.length ≤ maxLen := by
 simp only [Value.okWide, ht] at hok
 obtain ⟨fuel, hf⟩ := h
 have hv : v.cells.toList = [v] := by
  have hok' := hok
  simp only [Cell.okWide, ht, Cell.ok] at hok'
  cases v <;> simp_all [Value.cells]
 rw [hv] at hf
 exact Ajo ht hc he hf
end
end Go.Vm
