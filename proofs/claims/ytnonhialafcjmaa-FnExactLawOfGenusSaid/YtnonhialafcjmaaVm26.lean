/- From the readings of a row's arguments to closed data; from a contract to 'Calls'. -/
import Derived.Test.YtnonhialafcjmaaVm25
import Derived.ProofKit
set_option linter.unusedVariables false
set_option linter.unusedSimpArgs false
set_option linter.unusedSectionVars false
namespace Go.Vm
open Go Go.RowKit Go.ChangeShapes Go.WideShapes Go.ChangeAt

theorem sh_ints {H : Type} {enc : TypeId × Value → H} {P : Program} {w : World} {t e : TypeId} {base b0 fuel : Nat} {held : Bool} {r : Reach} {v : Value} {x : DataW H × List MemPlace} (ht : P.underlying t = some (.slice e)) (he : P.underlying e = some (.int .i64)) (hc : P.cellsOf e = 1)
    (h : DataW.trod enc P w base (fun _ => true) held fuel t [v] = some x) (hok : Cell.okWide P w r b0 t v) :
    ∃ l : List Int, Sh w (fun b => b < w.heap.size) (.list false 1 (ints l)) v ∧ (∀ n ∈ l, (Lit.int .i64 n).wf = true) ∧ l.length ≤ maxLen := by
  rcases open_ints ht he hc h with ⟨hcs, _⟩ | ⟨a, len, cap, zs, hcs, _, hl, hm, hz, _, hcell, hwz⟩
  · simp only [List.cons.injEq, and_true] at hcs
    subst hcs
    exact ⟨[], .nil false 1, fun n hn => by simp at hn, by simp⟩
  · simp only [List.cons.injEq, and_true] at hcs
    subst hcs
    simp only [Cell.okWide, ht, Cell.ok, World.has] at hok
    obtain ⟨_, _, _, hspot, row, cells, hsh, _⟩ := hok
    obtain ⟨b, off, spot⟩ := a
    simp only at hspot
    subst hspot
    simp only [if_true] at hz
    have hb : b < w.heap.size := by
      unfold World.shape? at hsh
      simp only at hsh
      split at hsh
      · rename_i hx
        exact (Array.getElem?_eq_some_iff.1 hx).1
      · cases hsh
    have hadd : ∀ i, (⟨b, off, none⟩ : Addr).add i = ⟨b, off + i, none⟩ := fun i => by
      simp only [Addr.add]
      split
      · rename_i e; subst e; rfl
      · rfl
    simp only [hadd] at hcell
    have hlen : (zs.take len).length = len := by simp; omega
    refine ⟨zs.take len, .list false 1 _ b off len cap (by simp [hlen]) hl hb (fun i hi => ?_) (fun i d v hd hv => ?_), fun n hn => hwz n (List.mem_of_mem_take hn), by rw [hlen]; omega⟩
    · have hi' : i < len := by simpa [hlen] using hi
      have := hcell i (by omega)
      rw [this]; rfl
    · have hi' : i < len := by
        have := lt_of_at hd
        simpa [hlen] using this
      have hx := hcell i (by omega)
      rw [hv] at hx
      simp only [Option.some.injEq] at hx
      subst hx
      have : (ints (zs.take len))[i]? = some (dint (zs.getD i 0)) := by
        refine ints_at ?_
        rw [List.getElem?_take_of_lt hi', List.getElem?_eq_getElem (by omega)]
        simp [show i < zs.length by omega]
      rw [this] at hd
      simp only [Option.some.injEq] at hd
      subst hd
      exact .lit _

theorem wf_bounds {n : Int} (h : (Lit.int .i64 n).wf = true) : -9223372036854775808 ≤ n ∧ n ≤ 9223372036854775807 := by
  simp only [Lit.wf, Bool.and_eq_true, decide_eq_true_eq] at h
  exact h

/-- A struct of a number and a row of numbers. -/
theorem sh_series {H : Type} {enc : TypeId × Value → H} {P : Program} {w : World} {t ti ts e : TypeId} {b0 base : Nat} {held : Bool} {r : Reach} {v : Value} {d : DataW H} {ps : List MemPlace} {f0 f1 : Field}
    (ht : P.underlying t = some (.struct #[f0, f1])) (hf0 : f0.type = ti ∧ f0.offset = 0) (hf1 : f1.type = ts ∧ f1.offset = 1) (hti : P.underlying ti = some (.int .i64)) (hci : P.cellsOf ti = 1) (hts : P.underlying ts = some (.slice e)) (hcs : P.cellsOf ts = 1)
    (he : P.underlying e = some (.int .i64)) (hce : P.cellsOf e = 1) (hct : P.cellTypes P.depth t = some [ti, ts]) (e2 : P.cellsOf t = 2)
    (hval : Value.okWide P w r b0 t v) (h : DataW.Trod enc P w base (fun _ => true) held t v d ps) :
    ∃ (m : Int) (l : List Int), Sh w (fun b => b < w.heap.size) (.agg [dint m, .list false 1 (ints l)]) v ∧ (Lit.int .i64 m).wf = true ∧ (∀ n ∈ l, (Lit.int .i64 n).wf = true) ∧ l.length ≤ maxLen := by
  simp only [Value.okWide, ht] at hval
  obtain ⟨cs, rfl, hsz, ts', hts', ⟨n, hn⟩, hrow⟩ := hval
  rw [hct] at hts'
  simp only [Option.some.injEq] at hts'
  subst hts'
  obtain ⟨fuel, hf⟩ := h
  obtain ⟨y0, y1, k, hx, hl, h0, h1⟩ := trod_struct2 ht hf
  simp only [hf0.1, hf0.2, hf1.1, hf1.2, hci, hcs, Value.cells, List.drop_zero] at h0 h1
  obtain ⟨m, hm, _, hwm⟩ := DataW.trod_int hti h0
  match hc : cs.toList, hm, h1 with
  | [], hm, _ => simp at hm
  | [a], hm, h1 =>
    simp at h1
    rcases open_ints hts he hce h1 with ⟨q, _⟩ | ⟨_, _, _, _, q, _⟩ <;> simp at q
  | a :: b :: rest, hm, h1 =>
    simp only [List.take_succ_cons, List.take_zero, List.cons.injEq, and_true] at hm
    subst hm
    have h1' : DataW.trod enc P w base (fun _ => true) held k ts [b] = some y1 := by simpa using h1
    have hb : Cell.okWide P w r b0 ts b := by
      have hbb : cs[1]? = some b := by rw [← Array.getElem?_toList, hc]; rfl
      obtain ⟨u, hu, hok⟩ := hrow 1 b hbb
      simp at hu; subst hu; exact hok
    obtain ⟨l, hsh, hwl, hll⟩ := sh_ints hts he hce h1' hb
    have h2 : cs.size = 2 := by
      have e1 : cs.toList.length = P.cellsOf t := hl
      simpa [e2] using e1
    refine ⟨m, l, .agg _ cs (by simpa using h2) (fun i d v hd hv => ?_), hwm, hwl, hll⟩
    rw [← Array.getElem?_toList, hc] at hv
    match i, hd, hv with
    | 0, hd, hv => simp at hd hv; subst hd; subst hv; exact .lit _
    | 1, hd, hv => simp at hd hv; subst hd; subst hv; exact hsh
    | i + 2, hd, hv => simp at hd

theorem PureCall.calls {P : Program} {f : FuncId} {args : List D} {rs : D} (h : PureCall P f args rs) {fn : Func} (hfn : P.funcs[f]? = some fn) (hb : fn.body.isNone = false) (hname : (fn.name == "runtime.NumGoroutine") = false)
    {w : World} {vals : Array Value} (hsz : vals.size = args.length) (hv : ∀ (i : Nat) d v, args[i]? = some d → vals[i]? = some v → Sh w (fun b => b < w.heap.size) d v) (n : Nat) :
    Calls P f vals w (fun e w' => ∃ v, e = .returned v ∧ Below w.heap.size w w' ∧ ResOk w w' n rs v) := by
  rcases h w vals n hsz hv with ⟨fn', _, _, _, hc⟩ | ⟨v, w', hr, _⟩
  · exact hc
  · have h2' : fn.name ≠ "runtime.NumGoroutine" := by simpa using hname
    have h3' : fn.body ≠ none := fun e => by rw [e] at hb; simp at hb
    simp [callFunc, program, Sem.run_bind, Sem.run, hfn, h2', h3'] at hr

theorem ResOk.bool {w w' : World} {n : Nat} {b : Bool} {v : Value} (h : ResOk w w' n (dbool b) v) : v = .bool b := by
  obtain ⟨own, _, _, _, hm⟩ := h
  exact hm.lit_inv

end Go.Vm
