/- The evaluator is sound: what makes memory, and stores. -/
import Derived.Test.YtnonhialafcjmaaVm10
set_option linter.unusedVariables false
set_option linter.unusedSimpArgs false
set_option linter.unusedSectionVars false
namespace Go.Vm
open Go Go.RowKit

section
variable {w : World} {ok : Nat → Prop} {own : Nat → Option Lab} {rt : RT}
theorem Sh.one {d : D} {v : Value} (h : Sh w ok d v) (hd : d.one = true) : v.oneCell' = true := by
  cases h <;> first | rfl | (simp [D.one] at hd; done) | skip
  cases v <;> first | rfl | (simp [D.one] at hd)
theorem Tr.one {l : Lab} {d : D} {v : Value} (h : Tr w ok own l d v) (hd : d.one = true) : v.oneCell' = true := by
  cases h with
  | sh _ _ _ _ h => exact h.one hd
  | nil => rfl
  | own => rfl
theorem Mt.one {d : D} {v : Value} (h : Mt w ok own rt d v) (hd : d.one = true) : v.oneCell' = true := by
  cases h with
  | undef => simp [D.one] at hd
  | sh _ _ h => exact h.one hd
  | ref _ _ _ _ _ _ _ h1 _ => exact h1
  | ptr _ _ _ _ _ h1 _ => exact h1
  | agg => simp [D.one] at hd
  | tup => simp [D.one] at hd
  | fn => rfl
theorem oneCell_cells {v : Value} (h : v.oneCell' = true) : v.cells = #[v] := by
  cases v <;> first | rfl | (simp [Value.oneCell'] at h)

/-- The cells of a value that fits. -/
theorem Mt.cells {d : D} {v : Value} {cs : List D} (h : Mt w ok own rt d v) (hc : d.cells = some cs) :
    v.cells.size = cs.length ∧ (∀ (i : Nat) x u, cs[i]? = some x → v.cells[i]? = some u → Mt w ok own rt x u) ∧ (∀ x ∈ cs, x.one = true) := by
  have single : d.one = true → cs = [d] → v.cells.size = cs.length ∧ (∀ (i : Nat) x u, cs[i]? = some x → v.cells[i]? = some u → Mt w ok own rt x u) ∧ (∀ x ∈ cs, x.one = true) := by
    intro h1 h2
    subst h2
    rw [oneCell_cells (h.one h1)]
    refine ⟨rfl, fun i x u hx hu => ?_, fun x hx => by simp at hx; rw [hx]; exact h1⟩
    cases i with
    | zero => simp at hx hu; subst hx; subst hu; exact h
    | succ i => simp at hx
  unfold D.cells at hc
  split at hc
  · rename_i ds
    split at hc
    · rename_i hall
      simp only [Option.some.injEq] at hc; subst hc
      obtain ⟨vs, rfl, hl, hr⟩ := h.agg_inv
      exact ⟨hl, hr, fun x hx => List.all_eq_true.1 hall x hx⟩
    · cases hc
  · cases hc
  · cases hc
  · split at hc
    · rename_i h1; simp only [Option.some.injEq] at hc; exact single h1 hc.symm
    · cases hc

theorem zeroCells_mt (z : Value) : z.cells.size = (zeroCells z).length ∧ ∀ (i : Nat) x u, (zeroCells z)[i]? = some x → z.cells[i]? = some u → Sh w ok x u ∧ x.notOwn = true := by
  refine ⟨by simp [zeroCells], fun i x u hx hu => ?_⟩
  simp only [zeroCells, List.getElem?_map, Array.getElem?_toList, hu, Option.map_some, Option.some.injEq] at hx
  subst hx
  cases u <;> first | exact ⟨.kb _, rfl⟩ | exact ⟨.lit _, rfl⟩
end

section
variable {P : Program} {T : Tab} {w0 : Base} {w : World} {env : List D} {rt : RT} {own : Nat → Option Lab} {a : Act} {n : Nat} {o : Oper} {K : Res → Prop} {Kc : Act → World → Prop} {Q : Exit → Act → World → Prop}

theorem applyRes_one (rt : RT) (n : Nat) (d : D) (x : Option Root) (rd : List Nat) : applyRes rt n { val := d, new := [x], rd := rd } = rt.set n x := by
  simp [applyRes, wrRT, newRT_one]

theorem alloc_sound (hT : TabOk P T) (hs : Sim w0 (fun i => env.getD i .undef) rt (fun i => a.tmps.getD i Go.undef) w own) (hn : rt n = none) (hg : Goal w0 env rt n a o.dst K Kc) (e : TypeId)
    (ho : o.op = .alloc e) (h : evK P T env rt n (.alloc e) K) : o.wp P a w Kc Q := by
  simp only [evK] at h
  have h1 := chk_and h; clear h; obtain ⟨hc, h⟩ := h1
  obtain ⟨it, d, hi, hu, hsz, _, hz, htd⟩ := hT.info (nz hc)
  have hr : (execOp a.eval o).run P w = .ok (.value (.pointer (some ⟨w.heap.size, 0, none⟩))) (w.alloc (.cells (T.get e).zero.cells e)) := by
    simp [execOp, ho, Instr.alloc, zeroValue, typeInfo, hi, hz, newVar, newRow]
  have hzc := zeroCells_mt (w := w) (ok := okb w own) (T.get e).zero
  refine wp_value hr (hg _ _ _ (ownSet own w.heap.size (n, [])) h ?_ ?_)
  · rw [applyRes_one]
    exact hs.newRoot n hn _ e ⟨true, 1, zeroCells (T.get e).zero⟩ (by rw [hzc.1]; exact Nat.le_refl _) (fun i d v h1 h2 => ⟨fun _ => .sh _ _ (hzc.2 i d v h1 h2).1, fun h => by cases h⟩)
  · rw [applyRes_one]
    exact Sim.newPtr n _ e _

theorem box_sound (hs : Sim w0 (fun i => env.getD i .undef) rt (fun i => a.tmps.getD i Go.undef) w own) (hn : rt n = none) (hg : Goal w0 env rt n a o.dst K Kc) (e : TypeId) (x : Operand)
    (ho : o.op = .box e x) (h : evK P T env rt n (.box e x) K) : o.wp P a w Kc Q := by
  simp only [evK] at h
  have hx := evO_mt hs x
  split at h
  · rename_i cs hcs
    obtain ⟨hl, hm, _⟩ := hx.cells hcs
    have hr : (execOp a.eval o).run P w = .ok (.value (.pointer (some ⟨w.heap.size, 0, none⟩))) (w.alloc (.cells (a.eval x).cells e)) := by
      simp [execOp, ho, Instr.box, newVar, newRow]
    refine wp_value hr (hg _ _ _ (ownSet own w.heap.size (n, [])) h ?_ ?_)
    · rw [applyRes_one]
      exact hs.newRoot n hn _ e ⟨true, 1, cs⟩ (by rw [hl]; exact Nat.le_refl _) (fun i d v h1 h2 => ⟨fun _ => hm i d v h1 h2, fun h => by cases h⟩)
    · rw [applyRes_one]
      exact Sim.newPtr n _ e _
  · exact h.elim

theorem getElem?_replicate_flatten {α : Type} (zs : List α) : ∀ (m i : Nat), i < m * zs.length → (List.replicate m zs).flatten[i]? = zs[i % zs.length]? := by
  intro m
  induction m with
  | zero => intro i h; omega
  | succ m ih =>
    intro i h
    rw [List.replicate_succ, List.flatten_cons]
    by_cases hi : i < zs.length
    · rw [List.getElem?_append_left hi, Nat.mod_eq_of_lt hi]
    · rw [Nat.add_mul] at h
      rw [List.getElem?_append_right (by omega), ih (i - zs.length) (by omega)]
      congr 1
      rw [Nat.mod_eq_sub_mod (a := i) (by omega)]

theorem replN_eq (m : Nat) (ds : List D) : replN m ds = (List.replicate m ds).flatten := by
  unfold replN; split
  · induction m with
    | zero => rfl
    | succ m ih => rw [List.replicate_succ, List.replicate_succ, List.flatten_cons, ih]; rfl
  · rfl

theorem replN_length (m : Nat) (ds : List D) : (replN m ds).length = m * ds.length := by
  rw [replN_eq]; simp

theorem madeCells_get (z : Array Value) (m i : Nat) (hi : i < m) (hz : 0 < z.size) : (madeCells z m)[i]? = z[i % z.size]? := by
  have : i % z.size < z.size := Nat.mod_lt _ hz
  simp [madeCells, hi, this]

theorem make_sound (hT : TabOk P T) (hs : Sim w0 (fun i => env.getD i .undef) rt (fun i => a.tmps.getD i Go.undef) w own) (hn : rt n = none) (hg : Goal w0 env rt n a o.dst K Kc) (t : TypeId) (l c : Operand)
    (ho : o.op = .makeSlice t l c) (h : makeK T n t (evO env l) (evO env c) K) : o.wp P a w Kc Q := by
  have hl := evO_mt hs l
  have hc := evO_mt hs c
  unfold makeK at h
  have h1 := chk_and h; clear h; obtain ⟨hct, h⟩ := h1
  obtain ⟨it, d, _, hu, _, _, _, htd⟩ := hT.info (nz hct)
  split at h
  · rename_i e x y hty hle hce
    have h1 := chk_and h; clear h; obtain ⟨hes, h⟩ := h1
    simp only [Bool.and_eq_true, Nat.beq_eq] at hes
    have hez := nz hes.1
    rw [hty] at htd
    have := Ty.ofDesc_slice htd.symm; subst this
    obtain ⟨ie, de, hie, _, hsz, hby, hze, _⟩ := hT.info hez
    rw [hle] at hl; rw [hce] at hc
    have hlv := hl.lit_inv
    have hcv := hc.lit_inv
    obtain ⟨⟨h0, h2, h3, h4⟩, k0, hk0, h⟩ := h
    rw [forceSz_eq] at h
    obtain ⟨cs0, hcs0, h⟩ := h
    subst hk0; subst hcs0
    have hzl := zeroCells_mt (w := w) (ok := okb w own) (T.get e).zero
    have hzs : (T.get e).zero.cells.size = (T.get e).size := by rw [hzl.1]; exact hes.2
    have hbm : (ie.bytes : Int) * y ≤ 281474976710656 := by
      rw [hby]
      have e1 : ((T.get e).bytes : Int) * y = ((y.toNat * (T.get e).bytes : Nat) : Int) := by
        rw [Int.natCast_mul, Int.toNat_of_nonneg (by omega), Int.mul_comm]
      rw [e1]; omega
    have hrun := run_make (P := P) w t e ie _ hu hie hze .i64 .i64 x y h0 h2 hbm (by omega)
    have hr : (execOp a.eval o).run P w = .ok (.value (.slice (some ⟨w.heap.size, 0, none⟩) x.toNat y.toNat)) (w.alloc (.cells (madeCells (T.get e).zero.cells (y.toNat * ie.size)) e)) := by
      simp [execOp, ho, hlv, hcv, hrun]
    have hxy : x.toNat ≤ y.toNat := by omega
    have hmul : x.toNat * (T.get e).size ≤ y.toNat * (T.get e).size := Nat.mul_le_mul_right _ hxy
    refine wp_value hr (hg _ _ _ (ownSet own w.heap.size (n, [])) h ?_ ?_)
    · rw [applyRes_one]
      refine hs.newRoot n hn _ e ⟨false, (T.get e).size, replN x.toNat (zeroCells (T.get e).zero)⟩ ?_ (fun i d v h1 h2 => ⟨fun h => (by cases h), fun _ => ?_⟩)
      · simp only [replN_length, size_madeCells]; rw [hes.2, hsz]; exact hmul
      · have hi : i < x.toNat * (T.get e).size := by
          have := (List.getElem?_eq_some_iff.1 h1).1
          simp only [replN_length] at this; rwa [hes.2] at this
        have hp : 0 < (T.get e).zero.cells.size := by rw [hzs]; omega
        rw [madeCells_get _ _ _ (by rw [hsz]; omega) hp] at h2
        simp only [replN_eq] at h1
        rw [getElem?_replicate_flatten _ _ _ (by rw [hes.2]; exact hi)] at h1
        rw [hzl.1] at h2
        exact (hzl.2 _ d v h1 h2).symm
    · rw [applyRes_one]
      exact Sim.newRef n _ e _ _ _ _ hxy (by simp [size_madeCells, hsz])
  · exact h.elim

/-- Several cells, stored into a box one after the other. -/
theorem storeBox_many (P : Program) {tm : Nat → Value} {env : Nat → D} {r b : Nat} : ∀ (ds : List D) (vs : List Value) (off i : Nat) (rt : RT) (R : Root) (w : World), Sim w0 env rt tm w own → rt r = some (some R) → R.box = true →
    own b = some (r, []) → vs.length = ds.length → off + i + ds.length ≤ R.cs.length →
    (∀ (j : Nat) d v, ds[j]? = some d → vs[j]? = some v → Mt w (okb w own) own rt d v ∧ v.oneCell' = true) →
    ∃ w', (storeCells ⟨b, off, none⟩ vs i).run P w = .ok () w' ∧ Sim w0 env (rt.set r (some { R with cs := setMany R.cs (off + i) ds })) tm w' own := by
  intro ds
  induction ds with
  | nil =>
    intro vs off i rt R w hs hR _ _ hl _ _
    have : vs = [] := List.eq_nil_of_length_eq_zero hl
    subst this
    refine ⟨w, rfl, ?_⟩
    have : rt.set r (some { R with cs := setMany R.cs (off + i) [] }) = rt := by
      funext r1; unfold RT.set; split
      · rename_i e; rw [e, hR]; rfl
      · rfl
    rw [this]; exact hs
  | cons d ds ih =>
    intro vs off i rt R w hs hR hbox hb hl hle hm
    match vs, hl with
    | v :: vs, hl =>
      simp only [List.length_cons, Nat.add_right_cancel_iff] at hl hle
      obtain ⟨hmv, h1v⟩ := hm 0 d v rfl rfl
      rcases hs.roots r R hR with ⟨b', arr, e, k1, k2, k3, k4⟩ | ⟨k1, _, _⟩
      · have hbb := hs.inj b' b _ k1 hb
        subst hbb
        have hlt : off + i < arr.size := by omega
        have hcell : w.cell? ⟨b', off + i, none⟩ = some arr[off + i] := by rw [cell_of_heap k2]; exact Array.getElem?_eq_getElem hlt
        have hfro : w.frozen? ⟨b', off + i, none⟩ = false := by simp [World.frozen?, k2]
        have hst := hs.storeBox (off := off + i) (v := v) (d := d) hR hbox hb hmv
        have hfr := Sim.storeFr (rt := rt) (own := own) (R := R) (R' := { R with cs := R.cs.set (off + i) d }) (Stored.setCell w b' (off + i) v) (by simp [World.setCell]) hR hb (fun q hq => by
          rcases hq with e | ⟨h1, _⟩
          · exact .inl e
          · rw [hbox] at h1; cases h1)
        obtain ⟨w', hrun, hsim⟩ := ih vs off (i + 1) _ { R with cs := R.cs.set (off + i) d } _ hst (RT.set_self _ _ _) hbox hb hl (by simp; omega)
          (fun j d1 v1 h1 h2 => by
            obtain ⟨x1, x2⟩ := hm (j + 1) d1 v1 (by simpa using h1) (by simpa using h2)
            exact ⟨x1.frame hfr, x2⟩)
        refine ⟨w', ?_, ?_⟩
        · simp only [storeCells, Sem.run_bind, Addr.add_off]
          rw [run_store P w _ v _ h1v, hcell]
          simp only [hfro, Bool.false_eq_true, if_false, Result.andThen_ok]
          exact hrun
        · have e1 : (rt.set r (some { R with cs := R.cs.set (off + i) d })).set r (some { box := R.box, sz := R.sz, cs := setMany (R.cs.set (off + i) d) (off + (i + 1)) ds }) = rt.set r (some { R with cs := setMany R.cs (off + i) (d :: ds) }) := by
            funext r1; unfold RT.set; split
            · rfl
            · rfl
          rw [e1] at hsim; exact hsim
      · rw [hbox] at k1; cases k1

theorem applyRes_wr (rt : RT) (n r : Nat) (d : D) (x : Option Root) (rd : List Nat) : applyRes rt n { val := d, wr := [(r, x)], rd := rd } = rt.set r x := by
  simp [applyRes, wrRT]

theorem applyRes_wr2 (rt : RT) (n r r2 : Nat) (d : D) (x y : Option Root) (rd : List Nat) : applyRes rt n { val := d, wr := [(r2, y), (r, x)], rd := rd } = (rt.set r2 y).set r x := by
  simp [applyRes, wrRT]

theorem store_sound (hT : TabOk P T) (hs : Sim w0 (fun i => env.getD i .undef) rt (fun i => a.tmps.getD i Go.undef) w own) (hg : Goal w0 env rt n a o.dst K Kc) (t : TypeId) (x y : Operand)
    (ho : o.op = .store t x y) (h : storeK T rt t (evO env x) (evO env y) K) : o.wp P a w Kc Q := by
  have hx := evO_mt hs x
  have hy := evO_mt hs y
  unfold storeK at h
  have h1 := chk_and h; clear h; obtain ⟨hct, h⟩ := h1
  obtain ⟨it, d, hi, hu, hsz, _, _, htd⟩ := hT.info (nz hct)
  split at h
  · rename_i r p off hxe
    rw [hxe] at hx
    split at h
    · rename_i R hR
      obtain ⟨b, arr, e, hb, hw, hv⟩ := hx.ptr_inv.2 R hR
      have run : ∀ w', (a.eval y).cells.size = it.size → (storeCells ⟨b, off, none⟩ (a.eval y).cells.toList).run P w = .ok () w' → (execOp a.eval o).run P w = .ok .skip w' := fun w' h1 h2 => by
        simp [execOp, ho, hv, Instr.storeAt, Instr.sureAddr, storeVar, sizeOf, typeInfo, hi, h1, h2]
      split at h
      · rename_i hbox
        split at h
        · rename_i ds hds
          have h1 := chk_and h; clear h; obtain ⟨hle, h⟩ := h1
          simp only [Bool.and_eq_true, Nat.beq_eq, Nat.ble_eq] at hle
          obtain ⟨hl, hm, hone⟩ := hy.cells hds
          obtain ⟨w', hrun, hsim⟩ := storeBox_many (w0 := w0) (own := own) P ds (a.eval y).cells.toList off 0 rt R w hs hR hbox hb (by simpa using hl) (by simpa using hle.2)
            (fun j d v h1 h2 => by
              have hmm := hm j d v h1 (by simpa using h2)
              exact ⟨hmm, hmm.one (hone d (List.mem_of_getElem? h1))⟩)
          refine wp_skipped (run w' (by rw [hl, hsz]; exact hle.1) hrun) (hg _ Go.undef w' own h ?_ (.undef _))
          rw [applyRes_wr]; simpa using hsim
        · exact h.elim
      · rename_i hbox
        have h1 := chk_and h; clear h; obtain ⟨hs1, h⟩ := h1
        rw [Nat.beq_eq] at hs1
        have core : ∀ (dd : D) (cs' : List D), dd.notOwn = true → dd.one = true → Sh w (okb w own) dd (a.eval y) → StoreRow R.cs p off dd cs' → K { val := .undef, wr := [(r, some { R with cs := cs' })], rd := [r] } → o.wp P a w Kc Q := by
          intro dd cs' hno hone hsh hrow hk
          obtain ⟨c, hc1, hc2, hc3, hc4⟩ := hrow
          have h1v := hsh.one hone
          rcases hs.blk hR hbox hc1 with ⟨b', arr', e', k1, k2, k3, k4⟩ | ⟨hnil, _⟩
          · have hbb := hs.inj b' b _ k1 hb
            subst hbb
            rw [hw] at k2; cases k2
            have hlt : off < arr.size := by omega
            have hcell : w.cell? ⟨b', off, none⟩ = some arr[off] := by rw [cell_of_heap hw]; exact Array.getElem?_eq_getElem hlt
            have hfro : w.frozen? ⟨b', off, none⟩ = false := by simp [World.frozen?, hw]
            have hsim := hs.storeRow hR hbox hb hc1 hc3 hno hsh
            rw [hc4] at hsim
            have hcells := oneCell_cells h1v
            refine wp_skipped (run _ (by rw [hcells, hsz, hs1]; rfl) ?_) (hg _ Go.undef _ own hk (by rw [applyRes_wr]; exact hsim) (.undef _))
            rw [hcells]
            simp only [storeCells, Sem.run_bind, Addr.add_off, Nat.add_zero]
            rw [run_store P w _ _ _ h1v, hcell]
            simp only [hfro, Bool.false_eq_true, if_false, Result.andThen_ok, Sem.run_pure]
          · rw [hnil] at hc2; simp at hc2
        split at h
        · rename_i v hye
          have h1 := chk_and h; clear h; obtain ⟨hone, h⟩ := h1
          obtain ⟨cs', hrow, h⟩ := h
          rw [hye] at hy
          have := hy.lit_inv
          exact core _ cs' rfl hone (by rw [this]; exact .lit _) hrow h
        · rename_i bb hye
          obtain ⟨cs', hrow, h⟩ := h
          rw [hye] at hy
          have := hy.kb_inv
          exact core _ cs' rfl rfl (by rw [this]; exact .lit _) hrow h
        · rename_i r' p' sz' off' m' hye
          have h1 := chk_and h; clear h; obtain ⟨hcs, h⟩ := h1
          simp only [Bool.and_eq_true, Bool.not_eq_true', ← Bool.not_eq_true, Nat.beq_eq] at hcs
          rw [hye] at hy
          split at h
          · rename_i R' hR'
            have h1 := chk_and h; clear h; obtain ⟨hbox', h⟩ := h1
            obtain ⟨hm, hlt, hno, cs', rfl, h⟩ := h
            have href := hy.ref_inv.2 R' hR'
            have h1v : (a.eval y).oneCell' = true := by
              cases hy with
              | ref _ _ _ _ _ _ _ h1 _ => exact h1
              | sh _ _ h => cases h
            rcases hs.roots r R hR with ⟨b', arr', e', k1, k2, k3, k4⟩ | ⟨_, k2, _⟩
            · have hbb := hs.inj b' b _ k1 hb
              subst hbb
              rw [hw] at k2; cases k2
              have hcell : w.cell? ⟨b', off, none⟩ = some arr[off] := by rw [cell_of_heap hw]; exact Array.getElem?_eq_getElem (by omega)
              have hfro : w.frozen? ⟨b', off, none⟩ = false := by simp [World.frozen?, hw]
              have hsim := hs.graft hR (by simpa using hbox) hb hR' (by simpa using hbox') hcs.2 hlt hno hcs.1 hm href
              have hcells := oneCell_cells h1v
              refine wp_skipped (run _ (by rw [hcells, hsz, hs1]; rfl) ?_) (hg _ Go.undef _ _ h (by rw [applyRes_wr2]; exact hsim) (.undef _))
              rw [hcells]
              simp only [storeCells, Sem.run_bind, Addr.add_off, Nat.add_zero]
              rw [run_store P w _ _ _ h1v, hcell]
              simp only [hfro, Bool.false_eq_true, if_false, Result.andThen_ok, Sem.run_pure]
            · rw [k2] at hlt; simp at hlt
          · exact h.elim
        · exact h.elim
    · exact h.elim
  · exact h.elim

end
end Go.Vm
