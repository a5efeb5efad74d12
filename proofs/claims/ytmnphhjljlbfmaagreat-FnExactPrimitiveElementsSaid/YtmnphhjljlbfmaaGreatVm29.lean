/- Rows: what the arguments read, and that they read so still. -/
import Derived.Test.YtmnphhjljlbfmaaGreatVm28
import Derived.OpenShut
import Derived.ChangeOld
import Derived.Below
import Derived.Carry
import Derived.Deep.Slices

set_option linter.unusedVariables false
set_option linter.unusedSimpArgs false
set_option linter.unusedSectionVars false
namespace Go.Vm
open Go Go.RowKit Go.ChangeShapes Go.WideShapes Go.ChangeAt Go.Deep

section
variable {H : Type} {enc : TypeId × Value → H} {P : Program}

theorem trodAll_below (hl : laidOutB P = true) {W W' : World} (hb : Below W.heap.size W W') : ∀ (ts : List TypeId) (vs : List Value) (ds : List (DataW H)) (p : List MemPlace), (ts.all fun t => P.readableRec t && decide (t < P.types.size)) = true →
    DataW.TrodAll enc P W 0 (fun _ => true) true ts vs ds p → DataW.TrodAll enc P W' 0 (fun b => decide (b < W.heap.size)) true ts vs ds p
  | [], vs, ds, p, _, h => by obtain ⟨rfl, rfl, rfl⟩ := trodAll_nil h; exact trodAll_mk0
  | t :: ts, vs, ds, p, ht, h => by
    obtain ⟨v, vs', d, ds', p0, q0, rfl, rfl, rfl, h0, h1⟩ := trodAll_cons h
    simp only [List.all_cons, Bool.and_eq_true, decide_eq_true_eq] at ht
    have lt0 : ∀ x ∈ p0, x.block < W.heap.size := by obtain ⟨m, hm⟩ := h0; exact DataW.trod_lt m _ _ _ hm
    refine trodAll_cons_mk (Below.trod hl ht.1.1 ht.1.2 h0 hb lt0) (trodAll_below hl hb ts vs' ds' q0 ?_ h1)
    simpa using ht.2

theorem addr_of_cell {w : World} {a : Addr} {v : Value} (h : w.cell? a = some v) : a = ⟨a.block, a.off, none⟩ ∧ a.block < w.heap.size := by
  unfold World.cell? at h
  split at h
  · rename_i c t f hc
    split at h
    · cases h
    · rename_i hs
      obtain ⟨b, o, sp⟩ := a
      simp at hs
      subst hs
      exact ⟨rfl, (Array.getElem?_eq_some_iff.1 hc).1⟩
  · cases h
theorem sh_ints1 {w : World} {t e : TypeId} {base fuel : Nat} {held : Bool} {v : Value} {x : DataW H × List MemPlace} (ht : P.underlying t = some (.slice e)) (he : P.underlying e = some (.int .i64)) (hc : P.cellsOf e = 1)
    (h : DataW.trod enc P w base (fun _ => true) held fuel t [v] = some x) :
    ∃ l : List Int, Sh w (fun b => b < w.heap.size) (.list false 1 (ints l)) v ∧ (∀ n ∈ l, (Lit.int .i64 n).wf = true) ∧ l.length ≤ maxLen := by
  rcases open_ints ht he hc h with ⟨hcs, _⟩ | ⟨a, len, cap, zs, hcs, _, hl, hm, hz, _, hcell, hwz⟩
  · simp only [List.cons.injEq, and_true] at hcs
    subst hcs
    exact ⟨[], .nil false 1, fun n hn => by simp at hn, by simp⟩
  · simp only [List.cons.injEq, and_true] at hcs
    subst hcs
    simp only [if_true] at hz
    by_cases hcap : cap = 0
    · have hl0 : len = 0 := by omega
      subst hcap; subst hl0
      exact ⟨[], .wild false 1 a, fun n hn => by simp at hn, by simp⟩
    · obtain ⟨ea, hb⟩ := addr_of_cell (hcell 0 (by omega))
      have e0 : a.add 0 = a := by simp [Addr.add]
      rw [e0] at ea hb
      have hadd : ∀ i, a.add i = ⟨a.block, a.off + i, none⟩ := fun i => by
        rw [ea, Addr.add_off]
      simp only [hadd] at hcell
      have hlen : (zs.take len).length = len := by simp; omega
      refine ⟨zs.take len, ?_, fun n hn => hwz n (List.mem_of_mem_take hn), by rw [hlen]; omega⟩
      rw [ea]
      refine .list false 1 _ a.block a.off len cap (by simp [hlen]) hl hb (fun i hi => ?_) (fun i d v hd hv => ?_)
      · have hi' : i < len := by simpa [hlen] using hi
        have := hcell i (by omega)
        rw [this]; rfl
      · have hi' : i < len := by
          have := lt_of_at hd
          simpa [hlen] using this
        have hx := hcell i (by omega)
        rw [hv] at hx
        simp only [Option.some.injEq] at hx
        subst hx
        have : (ints (zs.take len))[i]? = some (dint (zs.getD i 0)) := by
          refine ints_at ?_
          rw [List.getElem?_take_of_lt hi', List.getElem?_eq_getElem (by omega)]
          simp [show i < zs.length by omega]
        rw [this] at hd
        simp only [Option.some.injEq] at hd
        subst hd
        exact .lit _
theorem sh_rows1 {w : World} {t e i : TypeId} {base fuel : Nat} {held : Bool} {v : Value} {x : DataW H × List MemPlace} (ht : P.underlying t = some (.slice e)) (hce : P.cellsOf e = 1) (he : P.underlying e = some (.slice i)) (hi : P.underlying i = some (.int .i64)) (hci : P.cellsOf i = 1)
    (h : DataW.trod enc P w base (fun _ => true) held fuel t [v] = some x) :
    ∃ l : List (List Int), Sh w (fun b => b < w.heap.size) (.list false 1 (rows false l)) v ∧ (∀ k, k < l.length → (l.getD k []).length ≤ maxLen) ∧ l.length ≤ maxLen := by
  rcases open_slice1 ht hce h with ⟨hcs, _⟩ | ⟨a, len, cap, m, n, V, D, Pl, hcs, _, hl, hm, hmm, _, hcell⟩
  · simp only [List.cons.injEq, and_true] at hcs
    subst hcs
    exact ⟨[], .nil false 1, fun n hn => by simp at hn, by simp⟩
  · simp only [List.cons.injEq, and_true] at hcs
    subst hcs
    simp only [if_true] at hmm
    subst hmm
    by_cases hcap : m = 0
    · have hl0 : len = 0 := by omega
      subst hcap; subst hl0
      exact ⟨[], .wild false 1 a, fun n hn => by simp at hn, by simp⟩
    · obtain ⟨ea, hb⟩ := addr_of_cell (hcell 0 (by omega)).1
      have e0 : a.add 0 = a := by simp [Addr.add]
      rw [e0] at ea hb
      have hadd : ∀ i, a.add i = ⟨a.block, a.off + i, none⟩ := fun i => by
        rw [ea, Addr.add_off]
      simp only [hadd] at hcell
      obtain ⟨L, hL⟩ := choose_lt (α := List Int) (n := len) (p := fun k l => Sh w (fun b => b < w.heap.size) (.list false 1 (ints l)) (V k) ∧ l.length ≤ maxLen) (fun k hk => by
        obtain ⟨l, h1, _, h2⟩ := sh_ints1 he hi hci (hcell k (by omega)).2
        exact ⟨l, h1, h2⟩)
      have hlen : ((List.range len).map L).length = len := by simp
      refine ⟨(List.range len).map L, ?_, fun k hk => ?_, by rw [hlen]; omega⟩
      · rw [ea]
        refine .list false 1 _ a.block a.off len m (by simp) hl hb (fun k hk => ?_) (fun k d v hd hv => ?_)
        · have hk' : k < len := by simpa using hk
          rw [(hcell k (by omega)).1]; rfl
        · have hk' : k < len := by
            have := lt_of_at hd
            simpa using this
          have hx := (hcell k (by omega)).1
          rw [hv] at hx
          simp only [Option.some.injEq] at hx
          subst hx
          have : (rows false ((List.range len).map L))[k]? = some (.list false 1 (ints (L k))) := rows_at (by simp [hk'])
          rw [this] at hd
          simp only [Option.some.injEq] at hd
          subst hd
          exact (hL k hk').1
      · have hk' : k < len := by simpa using hk
        have : ((List.range len).map L).getD k [] = L k := by simp [hk']
        rw [this]; exact (hL k hk').2
theorem sh_plane {w : World} {t ti ts e i : TypeId} {b0 base : Nat} {held : Bool} {r : Reach} {v : Value} {d : DataW H} {ps : List MemPlace} {f0 f1 : Field}
    (ht : P.underlying t = some (.struct #[f0, f1])) (hf0 : f0.type = ti ∧ f0.offset = 0) (hf1 : f1.type = ts ∧ f1.offset = 1) (hti : P.underlying ti = some (.int .i64)) (hci : P.cellsOf ti = 1) (hts : P.underlying ts = some (.slice e)) (hcs : P.cellsOf ts = 1)
    (he : P.underlying e = some (.slice i)) (hce : P.cellsOf e = 1) (hi : P.underlying i = some (.int .i64)) (hci2 : P.cellsOf i = 1) (e2 : P.cellsOf t = 2)
    (hval : Value.okWide P w r b0 t v) (h : DataW.Trod enc P w base (fun _ => true) held t v d ps) :
    ∃ (m : Int) (l : List (List Int)), Sh w (fun b => b < w.heap.size) (.agg [dint m, .list false 1 (rows false l)]) v ∧ (Lit.int .i64 m).wf = true ∧ (∀ k, k < l.length → (l.getD k []).length ≤ maxLen) ∧ l.length ≤ maxLen := by
  simp only [Value.okWide, ht] at hval
  obtain ⟨cs, rfl, hsz, _⟩ := hval
  obtain ⟨fuel, hf⟩ := h
  obtain ⟨y0, y1, k, hx, hl, h0, h1⟩ := trod_struct2 ht hf
  simp only [hf0.1, hf0.2, hf1.1, hf1.2, hci, hcs, Value.cells, List.drop_zero] at h0 h1
  obtain ⟨m, hm, _, hwm⟩ := DataW.trod_int hti h0
  match hc : cs.toList, hm, h1 with
  | [], hm, _ => simp at hm
  | [a], hm, h1 =>
    simp at h1
    rcases open_slice1 hts hce h1 with ⟨q, _⟩ | ⟨_, _, _, _, _, _, _, _, q, _⟩ <;> simp at q
  | a :: b :: rest, hm, h1 =>
    simp only [List.take_succ_cons, List.take_zero, List.cons.injEq, and_true] at hm
    subst hm
    have h1' : DataW.trod enc P w base (fun _ => true) held k ts [b] = some y1 := by simpa using h1
    obtain ⟨l, hsh, hwl, hll⟩ := sh_rows1 hts hce he hi hci2 h1'
    have h2 : cs.size = 2 := by
      have e1 : cs.toList.length = P.cellsOf t := hl
      simpa [e2] using e1
    refine ⟨m, l, .agg _ cs (by simpa using h2) (fun i d v hd hv => ?_), hwm, hwl, hll⟩
    rw [← Array.getElem?_toList, hc] at hv
    match i, hd, hv with
    | 0, hd, hv => simp at hd hv; subst hd; subst hv; exact .lit _
    | 1, hd, hv => simp at hd hv; subst hd; subst hv; exact hsh
    | i + 2, hd, hv => simp at hd
end
end Go.Vm
