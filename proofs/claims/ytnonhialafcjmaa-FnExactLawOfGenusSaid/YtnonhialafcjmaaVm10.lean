/- The evaluator is sound: indexes, loads, lengths, fields of values. -/
import Derived.Test.YtnonhialafcjmaaVm9
set_option linter.unusedVariables false
set_option linter.unusedSimpArgs false
set_option linter.unusedSectionVars false
namespace Go.Vm
open Go Go.RowKit

theorem Ty.agg_ofDesc (d : TypeDesc) : (Ty.ofDesc d).agg = (match d with | .struct _ | .array _ _ => true | _ => false) := by cases d <;> rfl

section
variable {P : Program} {T : Tab} {w0 : Base} {w : World} {env : List D} {rt : RT} {own : Nat → Option Lab} {a : Act} {n : Nat} {o : Oper} {K : Res → Prop} {Kc : Act → World → Prop} {Q : Exit → Act → World → Prop}

theorem indexAddr_sound (hT : TabOk P T) (hs : Sim w0 (fun i => env.getD i .undef) rt (fun i => a.tmps.getD i Go.undef) w own) (hg : Goal w0 env rt n a o.dst K Kc) (t : TypeId) (x i : Operand)
    (ho : o.op = .indexAddr t x i) (h : indexAddrK T rt t (evO env x) (evO env i) K) : o.wp P a w Kc Q := by
  have hx := evO_mt hs x
  have hi := evO_mt hs i
  unfold indexAddrK at h
  have h1 := chk_and h; clear h; obtain ⟨hc, h⟩ := h1
  obtain ⟨it, d, _, hu, _, _, _, htd⟩ := hT.info (nz hc)
  split at h
  · rename_i e r p sz off m k j hty hxe hie
    have h1 := chk_and h; clear h; obtain ⟨hes, h⟩ := h1
    obtain ⟨hes, hz⟩ := elemIs_eq hes
    rw [hty] at htd
    have := Ty.ofDesc_slice htd.symm; subst this
    obtain ⟨ie, _, hie', _, hsz, _⟩ := hT.info (t := e) (by rw [hes]; exact hz)
    rw [hes] at hsz
    rw [hxe] at hx; rw [hie] at hi
    have hiv := hi.lit_inv
    obtain ⟨h0, href⟩ := hx.ref_inv
    split at h
    · rename_i R hR
      obtain ⟨⟨hj0, hj1⟩, h⟩ := h
      rcases href R hR with ⟨b, arr, e', cap, q, hb, hw, hv, hnc, hs', hq⟩ | ⟨_, _, h2, _⟩
      · have hq' := hq (.inr (by omega))
        refine quiet_sound hs hg h (v := .pointer (some ⟨b, q + j.toNat * sz, none⟩)) (.ptr _ _ _ _ h0 rfl (fun R' hR' => ⟨hx.ref_path R' hR', b, arr, e', hb, hw, ?_⟩)) ?_
        · rw [place_eq, hq', Nat.add_mul]
        · simp [execOp, ho, hv, hiv, Instr.indexAt, asIntOf, run_underlying hu, hj0, hj1, sizeOf, typeInfo, hie', hsz, Addr.add_off]
      · omega
    · exact h.elim
  · rename_i e ob sz cs k j hty hxe hie
    have h1 := chk_and h; clear h; obtain ⟨hes, h⟩ := h1
    obtain ⟨hes, hz⟩ := elemIs_eq hes
    rw [hty] at htd
    have := Ty.ofDesc_slice htd.symm; subst this
    obtain ⟨ie, _, hie', _, hsz, _⟩ := hT.info (t := e) (by rw [hes]; exact hz)
    rw [hes] at hsz
    rw [hxe] at hx; rw [hie] at hi
    have hiv := hi.lit_inv
    obtain ⟨⟨hj0, hj1⟩, h⟩ := h
    have hsh := hx.list_inv
    generalize hv : a.eval x = v at hsh
    cases hsh with
    | nil => simp [cnt_eq] at hj1; omega
    | wild => simp [cnt_eq] at hj1; omega
    | list _ _ _ b off len cap hlen hlc hb hc hr =>
      have hcn := cnt_mul hz hlen
      rw [hcn] at hj1
      refine quiet_sound hs hg h (v := .pointer (some ⟨b, off + j.toNat * sz, none⟩)) ?_ ?_
      · rw [place_eq, Nat.zero_add]
        exact .sh _ _ (.cptr cs _ b off hb hc hr)
      · simp [execOp, ho, hv, hiv, Instr.indexAt, asIntOf, run_underlying hu, hj0, hj1, sizeOf, typeInfo, hie', hsz, Addr.add_off]
  · exact h.elim

theorem nilCheck_sound (hs : Sim w0 (fun i => env.getD i .undef) rt (fun i => a.tmps.getD i Go.undef) w own) (hg : Goal w0 env rt n a o.dst K Kc) (x : Operand)
    (ho : o.op = .nilCheck x) (h : nilCheckK rt (evO env x) K) : o.wp P a w Kc Q := by
  have hx := evO_mt hs x
  unfold nilCheckK at h
  split at h
  · rename_i r p off e1
    rw [e1] at hx
    split at h
    · rename_i R hR
      obtain ⟨b, arr, e, hb, hw, hv⟩ := hx.ptr_inv.2 R hR
      exact quiet_sound hs hg h hx (by simp [execOp, ho, hv])
    · exact h.elim
  · rename_i cs off e1
    rw [e1] at hx
    have hsh := hx.cptr_inv
    generalize hv : a.eval x = v at hsh hx
    cases hsh with
    | cptr _ _ b q hb hc hr => exact quiet_sound hs hg h hx (by simp [execOp, ho, hv])
  · exact h.elim

theorem len_sound (hT : TabOk P T) (hs : Sim w0 (fun i => env.getD i .undef) rt (fun i => a.tmps.getD i Go.undef) w own) (hg : Goal w0 env rt n a o.dst K Kc) (t : TypeId) (x : Operand)
    (ho : o.op = .call { callee := .builtin .len, args := #[x], argTypes := #[t] }) (h : lenK T rt t (evO env x) K) : o.wp P a w Kc Q := by
  have hx := evO_mt hs x
  unfold lenK at h
  have h1 := chk_and h; clear h; obtain ⟨hc, h⟩ := h1
  obtain ⟨it, d, _, hu, _, _, _, htd⟩ := hT.info (nz hc)
  have run : ∀ v, (Builtin.len_ #[t] o.type #[a.eval x]).run P w = .ok v w → (execOp a.eval o).run P w = .ok (.value v) w := fun v hv => by
    simp [execOp, ho, resolve, invoke, builtin, hv]
  split at h
  · rename_i e r p sz off m hty hxe
    rw [hty] at htd
    have := Ty.ofDesc_slice htd.symm; subst this
    rw [hxe] at hx
    split at h
    · rename_i R hR
      refine quiet_sound hs hg h (.sh _ _ (.lit _)) (run _ ?_)
      rcases hx.ref_inv.2 R hR with ⟨b, arr, e', cap, q, hb, hw, hv, _⟩ | ⟨hv, _, h2, _⟩
      · simp [Builtin.len_, run_underlying hu, hv, goInt]
      · subst h2; simp [Builtin.len_, run_underlying hu, hv, goInt]
    · exact h.elim
  · rename_i e ob sz cs hty hxe
    have h1 := chk_and h; clear h; obtain ⟨hz, h⟩ := h1
    rw [hty] at htd
    have := Ty.ofDesc_slice htd.symm; subst this
    rw [hxe] at hx
    have hsh := hx.list_inv
    generalize hv : a.eval x = v at hsh run
    cases hsh with
    | nil => exact quiet_sound hs hg h (.sh _ _ (.lit _)) (run _ (by simp [Builtin.len_, run_underlying hu, goInt, cnt_eq]))
    | wild => exact quiet_sound hs hg h (.sh _ _ (.lit _)) (run _ (by simp [Builtin.len_, run_underlying hu, goInt, cnt_eq]))
    | list _ _ _ b off len cap hlen hlc hb hc hr =>
      have hcn := cnt_mul (nz hz) hlen
      exact quiet_sound hs hg h (.sh _ _ (.lit _)) (run _ (by simp [Builtin.len_, run_underlying hu, goInt, hcn]))
  · rename_i e hty hxe
    rw [hty] at htd
    have := Ty.ofDesc_slice htd.symm; subst this
    rw [hxe] at hx
    have hv := hx.lit_inv
    exact quiet_sound hs hg h (.sh _ _ (.lit _)) (run _ (by simp [Builtin.len_, run_underlying hu, hv, goInt]))
  · rename_i s hty hxe
    rw [hxe] at hx
    have hv := hx.lit_inv
    have hd : d = .string := by rw [hty] at htd; cases d <;> simp [Ty.ofDesc] at htd; rfl
    subst hd
    exact quiet_sound hs hg h (.sh _ _ (.lit _)) (run _ (by simp [Builtin.len_, run_underlying hu, hv, goInt]))
  · exact h.elim

theorem max_sound (hs : Sim w0 (fun i => env.getD i .undef) rt (fun i => a.tmps.getD i Go.undef) w own) (hg : Goal w0 env rt n a o.dst K Kc) (mx : Bool) (xs : Array Operand) (ts : Array TypeId)
    (ho : o.op = .call { callee := .builtin (if mx then .max else .min), args := xs, argTypes := ts }) (h : maxK mx (xs.toList.map (evO env)) K) : o.wp P a w Kc Q := by
  unfold maxK at h
  split at h
  · rename_i k c k' d e1
    obtain ⟨l⟩ := xs
    match l, e1 with
    | [x, y], e1 =>
      simp only [List.map_cons, List.map_nil, List.cons.injEq, and_true] at e1
      have hx := evO_mt hs x
      have hy := evO_mt hs y
      rw [e1.1] at hx; rw [e1.2] at hy
      have vx := hx.lit_inv
      have vy := hy.lit_inv
      refine quiet_sound hs hg h (.sh _ _ (.lit _)) ?_
      cases mx
      · simp only [Bool.false_eq_true, if_false] at ho
        simp only [execOp, ho, resolve, invoke, builtin, Sem.run_bind, Sem.run_pure, Result.andThen_ok, List.map_toArray, List.map_cons, List.map_nil, vx, vy]
        simp only [Builtin.min_, List.foldlM_cons, List.foldlM_nil, Builtin.min2, Sem.run_pure, Result.andThen_ok, bind_pure]
        congr 3
        rw [Int.min_def]; split <;> split <;> omega
      · simp only [if_true] at ho
        simp only [execOp, ho, resolve, invoke, builtin, Sem.run_bind, Sem.run_pure, Result.andThen_ok, List.map_toArray, List.map_cons, List.map_nil, vx, vy]
        simp only [Builtin.max_, List.foldlM_cons, List.foldlM_nil, Builtin.max2, Sem.run_pure, Result.andThen_ok, bind_pure]
        congr 3
        rw [Int.max_def]; split <;> split <;> omega
    | [], e1 => simp at e1
    | [x], e1 => simp at e1
    | _ :: _ :: _ :: _, e1 => simp at e1
  · exact h.elim

theorem run_isAgg {t : TypeId} {d : TypeDesc} (hu : P.underlying t = some d) : (isAgg t).run P w = .ok (Ty.ofDesc d).agg w := by
  rw [Ty.agg_ofDesc]
  simp only [isAgg, Sem.run_bind, run_underlying hu, Result.andThen_ok]
  cases d <;> simp

theorem run_loadOne {t : TypeId} {d : TypeDesc} (hu : P.underlying t = some d) (hagg : (Ty.ofDesc d).agg = false) (b q : Nat) (v : Value) (hv : w.cell? ⟨b, q, none⟩ = some v) :
    (Instr.loadAt t (.pointer (some ⟨b, q, none⟩))).run P w = .ok v w := by
  simp [Instr.loadAt, Instr.sureAddr, loadVar, run_isAgg hu, hagg, load, Sem.run, hv]

theorem run_loadAgg {t : TypeId} {d : TypeDesc} {i : TypeInfo} (hu : P.underlying t = some d) (hi : P.info? t = some i) (hagg : (Ty.ofDesc d).agg = true) (b q : Nat) (vs : List Value) (hl : vs.length = i.size)
    (hv : ∀ j v, vs[j]? = some v → w.cell? ⟨b, q + j, none⟩ = some v) :
    (Instr.loadAt t (.pointer (some ⟨b, q, none⟩))).run P w = .ok (.agg vs.toArray) w := by
  have hc := run_loadCells_list (P := P) w ⟨b, q, none⟩ vs (fun j v h => by rw [Addr.add_off]; exact hv j v h)
  rw [hl] at hc
  simp [Instr.loadAt, Instr.sureAddr, loadVar, run_isAgg hu, hagg, sizeOf, typeInfo, hi, hc]

theorem cell_of_heap {b : Nat} {arr : Array Value} {e : TypeId} {fr : Nat × Nat} (h : w.heap[b]? = some (.cells arr e fr)) (q : Nat) : w.cell? ⟨b, q, none⟩ = arr[q]? := by
  simp [World.cell?, h]

theorem Tr.lift {ok : Nat → Prop} {r i : Nat} {p : List Nat} {d : D} {v : Value} (h0 : rt r ≠ none) (hp : ∀ R, rt r = some (some R) → d.notOwn = false → Vp R (p ++ [i])) (h : Tr w ok own (r, p ++ [i]) d v) : Mt w ok own rt (lift r p i d) v := by
  generalize hl : (r, p ++ [i]) = l at h
  cases h with
  | sh _ _ _ hno h =>
    have : Vm.lift r p i d = d := by unfold Vm.lift; split <;> simp_all [D.notOwn]
    rw [this]; exact .sh _ _ h
  | nil _ sz hn =>
    subst hl
    exact .ref _ _ _ _ _ _ h0 rfl (fun R hR => ⟨hp R hR rfl, .inr ⟨rfl, rfl, by simp [cnt_eq], hn⟩⟩)
  | own _ sz cs b len cap arr e hz hlen hlc hb hw hc hs hr =>
    subst hl
    refine .ref _ _ _ _ _ _ h0 rfl (fun R hR => ⟨hp R hR rfl, .inl ⟨b, arr, e, cap, 0, hb, hw, ?_, ?_, by simpa using hc, by simp⟩⟩)
    · rw [cnt_mul hz hlen]
    · rw [cnt_mul hz hlen]; exact hlc

theorem Sim.blk (hs : Sim w0 (fun i => env.getD i .undef) rt (fun i => a.tmps.getD i Go.undef) w own) {r : Nat} {R : Root} (hR : rt r = some (some R)) (hbox : R.box = false) {p : List Nat} {c : List D} (hg : getB R.cs p = some c) :
    (∃ b, Blk w (okb w own) own r p b c) ∨ (c = [] ∧ ∀ b, own b ≠ some (r, p)) := by
  rcases hs.roots r R hR with ⟨b, arr, e, k1, k2, k3, k4⟩ | ⟨_, k2, k3⟩
  · have hblk : Blk w (okb w own) own r [] b R.cs := ⟨arr, e, k1, k2, k3, fun i d v hi hv => by
      have := k4 i d v hi hv; unfold CellOk at this; rw [hbox] at this; simpa using this⟩
    simpa using Blk.get p [] b R.cs c hblk hg
  · rw [k2] at hg
    cases p with
    | nil => simp only [getB, Option.some.injEq] at hg; exact .inr ⟨hg.symm, k3⟩
    | cons i q => simp [getB] at hg

theorem liftL_get (r : Nat) (p : List Nat) : ∀ (ds : List D) (i j : Nat) (d : D), ds[j]? = some d → (liftL r p i ds)[j]? = some (lift r p (i + j) d) := by
  intro ds
  induction ds with
  | nil => intro i j d h; simp at h
  | cons x xs ih =>
    intro i j d h
    cases j with
    | zero => simp only [List.getElem?_cons_zero, Option.some.injEq] at h; subst h; simp [liftL]
    | succ j => simp only [List.getElem?_cons_succ] at h; simp only [liftL, List.getElem?_cons_succ]; rw [ih (i + 1) j d h]; congr 2; omega

theorem liftL_length (r : Nat) (p : List Nat) : ∀ (ds : List D) (i : Nat), (liftL r p i ds).length = ds.length := by
  intro ds; induction ds with
  | nil => intro i; rfl
  | cons x xs ih => intro i; simp [liftL, ih]

theorem ex6 {K : Res → Prop} {t : TypeId} {av v : Value} {d : D} {rd : List Nat} (h : K { val := d, rd := rd }) (hm : Mt w (okb w own) own rt d v) (hr : (Instr.loadAt t av).run P w = .ok v w) :
    ∃ v res, K res ∧ res.new = [] ∧ res.wr = [] ∧ Mt w (okb w own) own rt res.val v ∧ (Instr.loadAt t av).run P w = .ok v w := ⟨v, _, h, rfl, rfl, hm, hr⟩

theorem load_val (hT : TabOk P T) (hs : Sim w0 (fun i => env.getD i .undef) rt (fun i => a.tmps.getD i Go.undef) w own) (t : TypeId) {x : D} {av : Value} (hx : Mt w (okb w own) own rt x av)
    (h : loadK T rt t x K) : ∃ v res, K res ∧ res.new = [] ∧ res.wr = [] ∧ Mt w (okb w own) own rt res.val v ∧ (Instr.loadAt t av).run P w = .ok v w := by
  unfold loadK at h
  have h1 := chk_and h; clear h; obtain ⟨hc, h⟩ := h1
  obtain ⟨it, d, hi, hu, hsz, _, _, htd⟩ := hT.info (nz hc)
  have run : ∀ v, (Instr.loadAt t av).run P w = .ok v w → (Instr.loadAt t av).run P w = .ok v w := fun v hv => hv
  split at h
  · rename_i r p off
    obtain ⟨h0, hp⟩ := hx.ptr_inv
    split at h
    · rename_i R hR
      obtain ⟨b, arr, e, hb, hw, hv⟩ := hp R hR
      subst hv
      split at h
      · rename_i hbox
        split at h
        · rcases hs.roots r R hR with ⟨b', arr', e', k1, k2, k3, k4⟩ | ⟨k1, _, _⟩
          · have hbb := hs.inj b' b _ k1 hb
            subst hbb
            rw [hw] at k2; cases k2
            have cell : ∀ (j : Nat) d v, R.cs[j]? = some d → arr[j]? = some v → Mt w (okb w own) own rt d v := fun j d v h1 h2 => by
              have := k4 j d v h1 h2; unfold CellOk at this; rwa [if_pos hbox] at this
            split at h
            · rename_i hagg
              have h1 := chk_and h; clear h; obtain ⟨hle, h⟩ := h1
              rw [Nat.ble_eq] at hle
              rw [htd] at hagg
              have hlen : ((arr.toList.drop off).take it.size).length = it.size := by
                simp only [List.length_take, List.length_drop, Array.length_toList]; omega
              refine ex6 (v := .agg ((arr.toList.drop off).take it.size).toArray) h (.agg _ _ ?_ (fun i d v h1 h2 => ?_)) (run _ (run_loadAgg hu hi hagg b' off _ hlen (fun j v h => ?_)))
              · rw [List.size_toArray, hlen, List.length_take, List.length_drop, hsz]; omega
              · simp only [List.getElem?_take, List.getElem?_drop] at h1
                simp only [List.getElem?_toArray, List.getElem?_take, List.getElem?_drop, Array.getElem?_toList] at h2
                split at h1
                · split at h2
                  · exact cell _ d v h1 h2
                  · cases h2
                · cases h1
              · rw [cell_of_heap hw]
                simp only [List.getElem?_take, List.getElem?_drop, Array.getElem?_toList] at h
                split at h
                · exact h
                · cases h
            · rename_i hagg
              rw [htd] at hagg
              split at h
              · rename_i dd hdd
                have hlt : off < arr.size := Nat.lt_of_lt_of_le (List.getElem?_eq_some_iff.1 hdd).1 k3
                have hav : arr[off]? = some arr[off] := Array.getElem?_eq_getElem hlt
                exact ex6 h (cell off dd _ hdd hav) (run _ (run_loadOne hu hagg b' off _ (by rw [cell_of_heap hw]; exact hav)))
              · exact h.elim
          · rw [hbox] at k1; cases k1
        · exact h.elim
      · rename_i hbox
        have blkAt : ∀ c, getB R.cs p = some c → c ≠ [] → c.length ≤ arr.size ∧ ∀ (i : Nat) d v, c[i]? = some d → arr[i]? = some v → Tr w (okb w own) own (r, p ++ [i]) d v := fun c hc hne => by
          rcases hs.blk hR hbox hc with ⟨b', arr', e', k1, k2, k3, k4⟩ | ⟨hnil, _⟩
          · have hbb := hs.inj b' b _ k1 hb
            subst hbb
            rw [hw] at k2; cases k2
            exact ⟨k3, k4⟩
          · exact absurd hnil hne
        split at h
        · rename_i hagg
          rw [htd] at hagg
          obtain ⟨ds, ⟨c, hcb, hds, hdl⟩, h⟩ := h
          have hne : c ≠ [] := by intro e0; subst e0; simp at hds; subst hds; simp at hdl; exact nz hc hdl.symm
          obtain ⟨k3, k4⟩ := blkAt c hcb hne
          have hle : off + it.size ≤ c.length := by
            rw [← hds, List.length_take, List.length_drop] at hdl; rw [hsz]
            have := nz hc; omega
          have hlen : ((arr.toList.drop off).take it.size).length = it.size := by
            simp only [List.length_take, List.length_drop, Array.length_toList]; omega
          refine ex6 (v := .agg ((arr.toList.drop off).take it.size).toArray) h (.agg _ _ ?_ (fun i d v h1 h2 => ?_)) (run _ (run_loadAgg hu hi hagg b off _ hlen (fun j v h => ?_)))
          · rw [List.size_toArray, hlen, liftL_length, hdl, hsz]
          · have hil : i < ds.length := by rw [← liftL_length r p ds off]; exact (List.getElem?_eq_some_iff.1 h1).1
            obtain ⟨di, hdi⟩ : ∃ di, ds[i]? = some di := ⟨_, List.getElem?_eq_getElem hil⟩
            rw [liftL_get r p ds off i _ hdi] at h1
            cases h1
            have hci : c[off + i]? = some di := by
              rw [← hds, List.getElem?_take, List.getElem?_drop] at hdi
              split at hdi
              · exact hdi
              · cases hdi
            refine Tr.lift h0 (fun R1 hR1 hno => by rw [hR] at hR1; cases hR1; exact Vp_snoc (by simpa using hbox) hcb hci hno) (k4 (off + i) di v hci ?_)
            · simp only [List.getElem?_toArray, List.getElem?_take, List.getElem?_drop, Array.getElem?_toList] at h2
              split at h2
              · exact h2
              · cases h2
          · rw [cell_of_heap hw]
            simp only [List.getElem?_take, List.getElem?_drop, Array.getElem?_toList] at h
            split at h
            · exact h
            · cases h
        · rename_i hagg
          rw [htd] at hagg
          obtain ⟨dd, ⟨c, hcb, hdd⟩, h⟩ := h
          have hne : c ≠ [] := by intro e0; rw [e0] at hdd; simp at hdd
          obtain ⟨k3, k4⟩ := blkAt c hcb hne
          have hlt : off < arr.size := Nat.lt_of_lt_of_le (List.getElem?_eq_some_iff.1 hdd).1 k3
          have hav : arr[off]? = some arr[off] := Array.getElem?_eq_getElem hlt
          exact ex6 h (Tr.lift h0 (fun R1 hR1 hno => by rw [hR] at hR1; cases hR1; exact Vp_snoc (by simpa using hbox) hcb hdd hno) (k4 off dd _ hdd hav)) (run _ (run_loadOne hu hagg b off _ (by rw [cell_of_heap hw]; exact hav)))
    · exact h.elim
  · rename_i cs off
    have hsh := hx.cptr_inv
    cases hsh with
    | cptr _ _ b q hb hcc hr =>
      have val : ∀ j, j < cs.length → ∃ v, w.cell? ⟨b, q + j, none⟩ = some v := fun j hj => Option.isSome_iff_exists.1 (hcc j hj)
      split at h
      · rename_i hagg
        rw [htd] at hagg
        obtain ⟨ds, hds, hdl, h⟩ := h
        have hle : off + it.size ≤ cs.length := by
          rw [← hds, List.length_take, List.length_drop] at hdl; rw [hsz]
          have := nz hc; omega
        let vs : List Value := (List.range it.size).map fun j => (w.cell? ⟨b, q + off + j, none⟩).getD .nilFunc
        have hvs : ∀ j, j < it.size → ∃ v, vs[j]? = some v ∧ w.cell? ⟨b, q + off + j, none⟩ = some v := fun j hj => by
          obtain ⟨v, hv⟩ := val (off + j) (by omega)
          rw [← Nat.add_assoc] at hv
          exact ⟨v, by simp [vs, hj, hv], hv⟩
        have hvl : vs.length = it.size := by simp [vs]
        refine ex6 (v := .agg vs.toArray) h (.agg _ _ (by rw [List.size_toArray, hvl, hdl, hsz]) (fun i d v h1 h2 => ?_)) (run _ (run_loadAgg hu hi hagg b (q + off) vs hvl (fun j v hj => ?_)))
        · have hil : i < it.size := by rw [hsz, ← hdl]; exact (List.getElem?_eq_some_iff.1 h1).1
          obtain ⟨u, hu1, hu2⟩ := hvs i hil
          simp only [List.getElem?_toArray] at h2
          rw [hu1] at h2; cases h2
          rw [← hds, List.getElem?_take, List.getElem?_drop] at h1
          split at h1
          · exact .sh _ _ (hr (off + i) d _ h1 (by rw [← Nat.add_assoc]; exact hu2))
          · cases h1
        · have hjl : j < it.size := by rw [← hvl]; exact (List.getElem?_eq_some_iff.1 hj).1
          obtain ⟨u, hu1, hu2⟩ := hvs j hjl
          rw [hu1] at hj; cases hj
          exact hu2
      · rename_i hagg
        rw [htd] at hagg
        obtain ⟨dd, hdd, h⟩ := h
        obtain ⟨u, hu1⟩ := val off (List.getElem?_eq_some_iff.1 hdd).1
        exact ex6 h (.sh _ _ (hr off dd u hdd hu1)) (run _ (run_loadOne hu hagg b (q + off) u hu1))
  · exact h.elim

theorem load_sound (hT : TabOk P T) (hs : Sim w0 (fun i => env.getD i .undef) rt (fun i => a.tmps.getD i Go.undef) w own) (hg : Goal w0 env rt n a o.dst K Kc) (t : TypeId) (x : Operand)
    (ho : o.op = .load t x) (h : loadK T rt t (evO env x) K) : o.wp P a w Kc Q := by
  obtain ⟨v, res, hk, h1, h2, hm, hr⟩ := load_val (P := P) hT hs t (evO_mt hs x) h
  have hrt : applyRes rt n res = rt := by simp [applyRes, h1, h2, wrRT]
  exact wp_value (by simp [execOp, ho, hr]) (hg res v w own hk (by rw [hrt]; exact hs) (by rw [hrt]; exact hm))

theorem field_sound (hT : TabOk P T) (hs : Sim w0 (fun i => env.getD i .undef) rt (fun i => a.tmps.getD i Go.undef) w own) (hg : Goal w0 env rt n a o.dst K Kc) (s : TypeId) (x : Operand) (f : Nat)
    (ho : o.op = .field s x f) (h : fieldK T s (evO env x) f K) : o.wp P a w Kc Q := by
  have hx := evO_mt hs x
  unfold fieldK at h
  have h1 := chk_and h; clear h; obtain ⟨hsz, h⟩ := h1
  obtain ⟨i, d, _, hu, _, _, _, hty⟩ := hT.info (nz hsz)
  split at h
  · rename_i off ti ds hf hxe
    have h1 := chk_and h; clear h; obtain ⟨hti, h⟩ := h1
    rw [hxe] at hx
    obtain ⟨vs, hv, hl, hr⟩ := hx.agg_inv
    unfold fieldOf at hf
    split at hf
    · rename_i fs hfs
      split at hf
      · rename_i o' t' hft
        simp only [Option.some.injEq, Prod.mk.injEq] at hf
        obtain ⟨rfl, rfl⟩ := hf
        rw [hfs] at hty
        obtain ⟨fa, rfl, rfl⟩ := Ty.ofDesc_struct hty.symm
        simp only [List.getElem?_map, Option.map_eq_some_iff, Array.getElem?_toList] at hft
        obtain ⟨fd, hfd, he⟩ := hft
        cases he
        obtain ⟨it, dt, hi, hut, hsz', _, _, htd⟩ := hT.info (nz hti)
        have ha := run_isAgg (P := P) (w := w) hut
        rw [← htd] at ha
        split at h
        · rename_i hagg
          have h1 := chk_and h; clear h; obtain ⟨hle, h⟩ := h1
          rw [Nat.ble_eq] at hle
          refine quiet_sound hs hg h (v := .agg (vs.extract fd.offset (fd.offset + it.size))) (.agg _ _ ?_ (fun i d v h1 h2 => ?_)) ?_
          · simp only [Array.size_extract, List.length_take, List.length_drop, hl]; omega
          · simp only [List.getElem?_take, List.getElem?_drop] at h1
            rw [Array.getElem?_extract] at h2
            split at h1
            · split at h2
              · exact hr _ d v h1 h2
              · cases h2
            · cases h1
          · simp [execOp, ho, hv, Instr.field, run_underlying hu, hfd, asAgg, part, ha, hagg, sizeOf, typeInfo, hi]
        · rename_i hagg
          split at h
          · rename_i dd hdd
            have hlt : fd.offset < vs.size := by rw [hl]; exact (List.getElem?_eq_some_iff.1 hdd).1
            refine quiet_sound hs hg h (hr _ dd vs[fd.offset] hdd (Array.getElem?_eq_getElem hlt)) ?_
            simp [execOp, ho, hv, Instr.field, run_underlying hu, hfd, asAgg, part, ha, hagg, Array.getElem?_eq_getElem hlt]
          · exact h.elim
      · cases hf
    · cases hf
  · exact h.elim

end
end Go.Vm
