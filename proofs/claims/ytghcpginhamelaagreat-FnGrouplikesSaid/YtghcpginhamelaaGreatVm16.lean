import Derived.Test.YtghcpginhamelaaGreatVm9
import Derived.Laws.IdiomCopy
set_option linter.unusedVariables false
set_option linter.unusedSimpArgs false
set_option linter.unusedSectionVars false
namespace Go.Vm
open Go Go.RowKit
theorem Ty.agg_ofDesc (d : TypeDesc) : (Ty.ofDesc d).agg = (match d with | .struct _ | .array _ _ => true | _ => false) := by cases d <;> rfl
section
variable {P : Program} {T : Tab} {w0 : Base} {w : World} {env : List D} {rt : RT} {own : Nat → Option Lab} {a : Act} {n : Nat} {o : Oper} {K : Res → Prop} {Kc : Act → World → Prop} {Q : Exit → Act → World → Prop}
theorem Alf (hT : TabOk P T) (hs : Sim w0 (fun i => env.getD i .undef) rt (fun i => a.tmps.getD i Go.undef) w own) (hg : cZ w0 env rt n a o.dst K Kc) (t : TypeId) (x i : Operand)
  (ho : o.op = .indexAddr t x i) (h : jO T rt t (aM env x) (aM env i) K) : o.wp P a w Kc Q := by
 have hx := bZ hs x
 have hi := bZ hs i
 unfold jO at h
 have h1 := aO h; clear h; obtain ⟨hc, h⟩ := h1
 obtain ⟨it, d, _, hu, _, _, _, htd⟩ := hT.info (nz hc)
 split at h
 ·rename_i e r p sz off m k j hty hxe hie
  have h1 := aO h; clear h; obtain ⟨hes, h⟩ := h1
  obtain ⟨hes, hz⟩ := mG hes
  rw [hty] at htd
  have := Ty.ofDesc_slice htd.symm; subst this
  obtain ⟨ie, _, hie', _, hsz, _⟩ := hT.info (t := e) (by rw [hes]; exact hz)
  rw [hes] at hsz
  rw [hxe] at hx; rw [hie] at hi
  have hiv := hi.lit_inv
  obtain ⟨h0, href⟩ := hx.ref_inv
  split at h
  ·rename_i R hR
   obtain ⟨⟨hj0, hj1⟩, h⟩ := h
   rcases href R hR with ⟨b, arr, e', cap, q, hb, hw, hv, hnc, hs', hq⟩ | ⟨_, _, h2, _⟩
   ·have hq' := hq (.inr (by omega))
    refine cG hs hg h (v := .pointer (some ⟨b, q + j.toNat * sz, none⟩)) (.ptr _ _ _ _ h0 rfl (fun R' hR' => ⟨hx.ref_path R' hR', b, arr, e', hb, hw, ?_⟩)) ?_
    ·rw [Aeq, hq', Nat.add_mul]
    ·simp [execOp, ho, hv, hiv, Instr.indexAt, asIntOf, run_underlying hu, hj0, hj1, sizeOf, typeInfo, hie', hsz, Addr.add_off]
   ·omega
  ·exact h.elim
 ·rename_i e ob sz cs k j hty hxe hie
  have h1 := aO h; clear h; obtain ⟨hes, h⟩ := h1
  obtain ⟨hes, hz⟩ := mG hes
  rw [hty] at htd
  have := Ty.ofDesc_slice htd.symm; subst this
  obtain ⟨ie, _, hie', _, hsz, _⟩ := hT.info (t := e) (by rw [hes]; exact hz)
  rw [hes] at hsz
  rw [hxe] at hx; rw [hie] at hi
  have hiv := hi.lit_inv
  obtain ⟨⟨hj0, hj1⟩, h⟩ := h
  have hsh := hx.list_inv
  generalize hv : a.eval x = v at hsh
  cases hsh with
  | nil => simp [gQ] at hj1; omega
  | wild => simp [gQ] at hj1; omega
  | list _ _ _ b off len cap hlen hlc hb hc hr =>
   have hcn := mS hz hlen
   rw [hcn] at hj1
   refine cG hs hg h (v := .pointer (some ⟨b, off + j.toNat * sz, none⟩)) ?_ ?_
   ·rw [Aeq, Nat.zero_add]
    exact .sh _ _ (.cptr cs _ b off hb hc hr)
   ·simp [execOp, ho, hv, hiv, Instr.indexAt, asIntOf, run_underlying hu, hj0, hj1, sizeOf, typeInfo, hie', hsz, Addr.add_off]
 ·exact h.elim
theorem Aq2 (hs : Sim w0 (fun i => env.getD i .undef) rt (fun i => a.tmps.getD i Go.undef) w own) (hg : cZ w0 env rt n a o.dst K Kc) (x : Operand)
  (ho : o.op = .nilCheck x) (h : pM rt (aM env x) K) : o.wp P a w Kc Q := by
 have hx := bZ hs x
 unfold pM at h
 split at h
 ·rename_i r p off e1
  rw [e1] at hx
  split at h
  ·rename_i R hR
   obtain ⟨b, arr, e, hb, hw, hv⟩ := hx.ptr_inv.2 R hR
   exact cG hs hg h hx (by simp [execOp, ho, hv])
  ·exact h.elim
 ·rename_i cs off e1
  rw [e1] at hx
  have hsh := hx.cptr_inv
  generalize hv : a.eval x = v at hsh hx
  cases hsh with
  | cptr _ _ b q hb hc hr => exact cG hs hg h hx (by simp [execOp, ho, hv])
 ·exact h.elim
theorem Aip (hT : TabOk P T) (hs : Sim w0 (fun i => env.getD i .undef) rt (fun i => a.tmps.getD i Go.undef) w own) (hg : cZ w0 env rt n a o.dst K Kc) (op : BinOp) (t t' : TypeId) (x y : Operand)
  (ho : o.op = .binOp op t x y t') (hye : aM env y = .lit (.slice none 0 0)) (h : nZ T rt t op (aM env x) K) : o.wp P a w Kc Q := by
 have hx := bZ hs x
 have hy := bZ hs y
 rw [hye] at hy
 have vy := hy.lit_inv
 unfold nZ at h
 have h1 := aO h; clear h; obtain ⟨hk, h⟩ := h1
 obtain ⟨_, ds, _, hds, _, _, _, hty⟩ := hT.info (nz hk)
 split at h
 ·rename_i e hte
  rw [hte] at hty
  have := Ty.ofDesc_slice hty.symm; subst this
  split at h
  ·rename_i e1
   rw [e1] at hx
   have vx := hx.lit_inv
   have he0 : ∀ m, (Op.equalIn (m + 1) t (.slice none 0 0) (.slice none 0 0)).run P w = .ok true w := fun m => by
    simp [Op.equalIn, underlying, program, Sem.run, hds]
   have he : (Op.equal t (.slice none 0 0) (.slice none 0 0)).run P w = .ok true w := he0 9999
   cases op <;> simp only at h
   case eql => exact cG hs hg h (.sh _ _ (.kb _)) (by simp [execOp, ho, vx, vy, eqGuard, Go.binOp, Sem.run_bind, he])
   case neq => exact cG hs hg h (.sh _ _ (.kb _)) (by simp [execOp, ho, vx, vy, eqGuard, Go.binOp, Sem.run_bind, he])
  ·rename_i r p sz off m e1
   rw [e1] at hx
   split at h
   ·rename_i R hR
    obtain ⟨hm, h⟩ := h
    rcases hx.ref_inv.2 R hR with ⟨b, arr, e', cap, q, hb, hw, vx, _⟩ | ⟨_, _, h2, _⟩
    ·have he0 : ∀ k, (Op.equalIn (k + 1) t (.slice (some ⟨b, q, none⟩) m cap) (.slice none 0 0)).run P w = .ok false w := fun k => by
      simp [Op.equalIn, underlying, program, Sem.run, hds]
     have he : (Op.equal t (.slice (some ⟨b, q, none⟩) m cap) (.slice none 0 0)).run P w = .ok false w := he0 9999
     cases op <;> simp only at h
     case eql => exact cG hs hg h (.sh _ _ (.kb _)) (by simp [execOp, ho, vx, vy, eqGuard, Go.binOp, Sem.run_bind, he])
     case neq => exact cG hs hg h (.sh _ _ (.kb _)) (by simp [execOp, ho, vx, vy, eqGuard, Go.binOp, Sem.run_bind, he])
    ·exact absurd h2 hm
   ·exact h.elim
  ·exact h.elim
 ·exact h.elim
theorem Aio (hT : TabOk P T) (hs : Sim w0 (fun i => env.getD i .undef) rt (fun i => a.tmps.getD i Go.undef) w own) (hg : cZ w0 env rt n a o.dst K Kc) (t : TypeId) (x : Operand)
  (ho : o.op = .call { callee := .builtin .len, args := #[x], argTypes := #[t] }) (h : mK T rt t (aM env x) K) : o.wp P a w Kc Q := by
 have hx := bZ hs x
 unfold mK at h
 have h1 := aO h; clear h; obtain ⟨hc, h⟩ := h1
 obtain ⟨it, d, _, hu, _, _, _, htd⟩ := hT.info (nz hc)
 have run : ∀ v, (Builtin.len_ #[t] o.type #[a.eval x]).run P w = .ok v w → (execOp a.eval o).run P w = .ok (.value v) w := fun v hv => by
  simp [execOp, ho, resolve, invoke, builtin, hv]
 split at h
 ·rename_i e r p sz off m hty hxe
  rw [hty] at htd
  have := Ty.ofDesc_slice htd.symm; subst this
  rw [hxe] at hx
  split at h
  ·rename_i R hR
   refine cG hs hg h (.sh _ _ (.lit _)) (run _ ?_)
   rcases hx.ref_inv.2 R hR with ⟨b, arr, e', cap, q, hb, hw, hv, _⟩ | ⟨hv, _, h2, _⟩
   ·simp [Builtin.len_, run_underlying hu, hv, goInt]
   ·subst h2; simp [Builtin.len_, run_underlying hu, hv, goInt]
  ·exact h.elim
 ·rename_i e ob sz cs hty hxe
  have h1 := aO h; clear h; obtain ⟨hz, h⟩ := h1
  rw [hty] at htd
  have := Ty.ofDesc_slice htd.symm; subst this
  rw [hxe] at hx
  have hsh := hx.list_inv
  generalize hv : a.eval x = v at hsh run
  cases hsh with
  | nil => exact cG hs hg h (.sh _ _ (.lit _)) (run _ (by simp [Builtin.len_, run_underlying hu, goInt, gQ]))
  | wild => exact cG hs hg h (.sh _ _ (.lit _)) (run _ (by simp [Builtin.len_, run_underlying hu, goInt, gQ]))
  | list _ _ _ b off len cap hlen hlc hb hc hr =>
   have hcn := mS (nz hz) hlen
   exact cG hs hg h (.sh _ _ (.lit _)) (run _ (by simp [Builtin.len_, run_underlying hu, goInt, hcn]))
 ·rename_i e hty hxe
  rw [hty] at htd
  have := Ty.ofDesc_slice htd.symm; subst this
  rw [hxe] at hx
  have hv := hx.lit_inv
  exact cG hs hg h (.sh _ _ (.lit _)) (run _ (by simp [Builtin.len_, run_underlying hu, hv, goInt]))
 ·rename_i s hty hxe
  rw [hxe] at hx
  have hv := hx.lit_inv
  have hd : d = .string := by rw [hty] at htd; cases d <;> simp [Ty.ofDesc] at htd; rfl
  subst hd
  exact cG hs hg h (.sh _ _ (.lit _)) (run _ (by simp [Builtin.len_, run_underlying hu, hv, goInt]))
 ·exact h.elim
theorem W0 (hs : Sim w0 (fun i => env.getD i .undef) rt (fun i => a.tmps.getD i Go.undef) w own) (hg : cZ w0 env rt n a o.dst K Kc) (mx : Bool) (xs : Array Operand) (ts : Array TypeId)
  (ho : o.op = .call { callee := .builtin (if mx then .max else .min), args := xs, argTypes := ts }) (h : rN mx (xs.toList.map (aM env)) K) : o.wp P a w Kc Q := by
 unfold rN at h
 split at h
 ·rename_i k c k' d e1
  obtain ⟨l⟩ := xs
  match l, e1 with
  | [x, y], e1 =>
   simp only [List.map_cons, List.map_nil, List.cons.injEq, and_true] at e1
   have hx := bZ hs x
   have hy := bZ hs y
   rw [e1.1] at hx; rw [e1.2] at hy
   have vx := hx.lit_inv
   have vy := hy.lit_inv
   refine cG hs hg h (.sh _ _ (.lit _)) ?_
   cases mx
   ·simp only [Bool.false_eq_true, if_false] at ho
    simp only [execOp, ho, resolve, invoke, builtin, Sem.run_bind, Sem.run_pure, Result.andThen_ok, List.map_toArray, List.map_cons, List.map_nil, vx, vy]
    simp only [Builtin.min_, List.foldlM_cons, List.foldlM_nil, Builtin.min2, Sem.run_pure, Result.andThen_ok, bind_pure]
    congr 3
    rw [Int.min_def]; split <;> split <;> omega
   ·simp only [if_true] at ho
    simp only [execOp, ho, resolve, invoke, builtin, Sem.run_bind, Sem.run_pure, Result.andThen_ok, List.map_toArray, List.map_cons, List.map_nil, vx, vy]
    simp only [Builtin.max_, List.foldlM_cons, List.foldlM_nil, Builtin.max2, Sem.run_pure, Result.andThen_ok, bind_pure]
    congr 3
    rw [Int.max_def]; split <;> split <;> omega
  | [], e1 => simp at e1
  | [x], e1 => simp at e1
  | _ :: _ :: _ :: _, e1 => simp at e1
 ·exact h.elim
theorem K4 {t : TypeId} {d : TypeDesc} (hu : P.underlying t = some d) : (isAgg t).run P w = .ok (Ty.ofDesc d).agg w := by
 rw [Ty.agg_ofDesc]
 simp only [isAgg, Sem.run_bind, run_underlying hu, Result.andThen_ok]
 cases d <;> simp
theorem P7 {t : TypeId} {d : TypeDesc} (hu : P.underlying t = some d) (hagg : (Ty.ofDesc d).agg = false) (b q : Nat) (v : Value) (hv : w.cell? ⟨b, q, none⟩ = some v) :
  (Instr.loadAt t (.pointer (some ⟨b, q, none⟩))).run P w = .ok v w := by
 simp [Instr.loadAt, Instr.sureAddr, loadVar, K4 hu, hagg, load, Sem.run, hv]
theorem F6 {t : TypeId} {d : TypeDesc} {i : TypeInfo} (hu : P.underlying t = some d) (hi : P.info? t = some i) (hagg : (Ty.ofDesc d).agg = true) (b q : Nat) (vs : List Value) (hl : vs.length = i.size)
  (hv : ∀ j v, vs[j]? = some v → w.cell? ⟨b, q + j, none⟩ = some v) :
  (Instr.loadAt t (.pointer (some ⟨b, q, none⟩))).run P w = .ok (.agg vs.toArray) w := by
 have hc := run_loadCells_list (P := P) w ⟨b, q, none⟩ vs (fun j v h => by rw [Addr.add_off]; exact hv j v h)
 rw [hl] at hc
 simp [Instr.loadAt, Instr.sureAddr, loadVar, K4 hu, hagg, sizeOf, typeInfo, hi, hc]
theorem cell_of_heap {b : Nat} {arr : Array Value} {e : TypeId} {fr : Nat × Nat} (h : w.heap[b]? = some (.cells arr e fr)) (q : Nat) : w.cell? ⟨b, q, none⟩ = arr[q]? := by
 simp [World.cell?, h]
theorem Tr.lift {ok : Nat → Prop} {r i : Nat} {p : List Nat} {d : D} {v : Value} (h0 : rt r ≠ none) (hp : ∀ R, rt r = some (some R) → d.notOwn = false → Vp R (p ++ [i])) (h : Tr w ok own (r, p ++ [i]) d v) : Mt w ok own rt (lift r p i d) v := by
 generalize hl : (r, p ++ [i]) = l at h
 cases h with
 | sh _ _ _ hno h =>
  have : Vm.lift r p i d = d := by unfold Vm.lift; split <;> simp_all [D.notOwn]
  rw [this]; exact .sh _ _ h
 | nil _ sz hn =>
  subst hl
  exact .ref _ _ _ _ _ _ h0 rfl (fun R hR => ⟨hp R hR rfl, .inr ⟨rfl, rfl, by simp [gQ], hn⟩⟩)
 | own _ sz cs b len cap arr e hz hlen hlc hb hw hc hs hr =>
  subst hl
  refine .ref _ _ _ _ _ _ h0 rfl (fun R hR => ⟨hp R hR rfl, .inl ⟨b, arr, e, cap, 0, hb, hw, ?_, ?_, by simpa using hc, by simp⟩⟩)
  ·rw [mS hz hlen]
  ·rw [mS hz hlen]; exact hlc
theorem Sim.blk (hs : Sim w0 (fun i => env.getD i .undef) rt (fun i => a.tmps.getD i Go.undef) w own) {r : Nat} {R : Root} (hR : rt r = some (some R)) (hbox : R.box = false) {p : List Nat} {c : List D} (hg : bE R.cs p = some c) :
  (∃ b, gD w (okb w own) own r p b c) ∨ (c = [] ∧ ∀ b, own b ≠ some (r, p)) := by
 rcases hs.roots r R hR with ⟨b, arr, e, k1, k2, k3, k4⟩ | ⟨_, k2, k3⟩
 ·have hblk : gD w (okb w own) own r [] b R.cs := ⟨arr, e, k1, k2, k3, fun i d v hi hv => by
   have := k4 i d v hi hv; unfold bX at this; rw [hbox] at this; simpa using this⟩
  simpa using gD.get p [] b R.cs c hblk hg
 ·rw [k2] at hg
  cases p with
  | nil => simp only [bE, Option.some.injEq] at hg; exact .inr ⟨hg.symm, k3⟩
  | cons i q => simp [bE] at hg
theorem Aqc (r : Nat) (p : List Nat) : ∀ (ds : List D) (i j : Nat) (d : D), ds[j]? = some d → (qV r p i ds)[j]? = some (lift r p (i + j) d) := by
 intro ds
 induction ds with
 | nil => intro i j d h; simp at h
 | cons x xs ih =>
  intro i j d h
  cases j with
  | zero => simp only [List.getElem?_cons_zero, Option.some.injEq] at h; subst h; simp [qV]
  | succ j => simp only [List.getElem?_cons_succ] at h; simp only [qV, List.getElem?_cons_succ]; rw [ih (i + 1) j d h]; congr 2; omega
theorem Aaa (r : Nat) (p : List Nat) : ∀ (ds : List D) (i : Nat), (qV r p i ds).length = ds.length := by
 intro ds; induction ds with
 | nil => intro i; rfl
 | cons x xs ih => intro i; simp [qV, ih]
theorem sP {K : Res → Prop} {t : TypeId} {av v : Value} {d : D} {rd : List Nat} (h : K { val := d, rd := rd }) (hm : Mt w (okb w own) own rt d v) (hr : (Instr.loadAt t av).run P w = .ok v w) :
  ∃ v res, K res ∧ res.new = [] ∧ res.wr = [] ∧ Mt w (okb w own) own rt res.val v ∧ (Instr.loadAt t av).run P w = .ok v w := ⟨v, _, h, rfl, rfl, hm, hr⟩
theorem Afk (hT : TabOk P T) (hs : Sim w0 (fun i => env.getD i .undef) rt (fun i => a.tmps.getD i Go.undef) w own) (t : TypeId) {x : D} {av : Value} (hx : Mt w (okb w own) own rt x av)
  (h : eJ T rt t x K) : ∃ v res, K res ∧ res.new = [] ∧ res.wr = [] ∧ Mt w (okb w own) own rt res.val v ∧ (Instr.loadAt t av).run P w = .ok v w := by
 unfold eJ at h
 have h1 := aO h; clear h; obtain ⟨hc, h⟩ := h1
 obtain ⟨it, d, hi, hu, hsz, _, _, htd⟩ := hT.info (nz hc)
 have run : ∀ v, (Instr.loadAt t av).run P w = .ok v w → (Instr.loadAt t av).run P w = .ok v w := fun v hv => hv
 split at h
 ·rename_i r p off
  obtain ⟨h0, hp⟩ := hx.ptr_inv
  split at h
  ·rename_i R hR
   obtain ⟨b, arr, e, hb, hw, hv⟩ := hp R hR
   subst hv
   split at h
   ·rename_i hbox
    split at h
    ·rcases hs.roots r R hR with ⟨b', arr', e', k1, k2, k3, k4⟩ | ⟨k1, _, _⟩
     ·have hbb := hs.inj b' b _ k1 hb
      subst hbb
      rw [hw] at k2; cases k2
      have cell : ∀ (j : Nat) d v, R.cs[j]? = some d → arr[j]? = some v → Mt w (okb w own) own rt d v := fun j d v h1 h2 => by
       have := k4 j d v h1 h2; unfold bX at this; rwa [if_pos hbox] at this
      split at h
      ·rename_i hagg
       have h1 := aO h; clear h; obtain ⟨hle, h⟩ := h1
       rw [Nat.ble_eq] at hle
       rw [htd] at hagg
       have hlen : ((arr.toList.drop off).take it.size).length = it.size := by
        simp only [List.length_take, List.length_drop, Array.length_toList]; omega
       refine sP (v := .agg ((arr.toList.drop off).take it.size).toArray) h (.agg _ _ ?_ (fun i d v h1 h2 => ?_)) (run _ (F6 hu hi hagg b' off _ hlen (fun j v h => ?_)))
       ·rw [List.size_toArray, hlen, List.length_take, List.length_drop, hsz]; omega
       ·simp only [List.getElem?_take, List.getElem?_drop] at h1
        simp only [List.getElem?_toArray, List.getElem?_take, List.getElem?_drop, Array.getElem?_toList] at h2
        split at h1
        ·split at h2
         ·exact cell _ d v h1 h2
         ·cases h2
        ·cases h1
       ·rw [cell_of_heap hw]
        simp only [List.getElem?_take, List.getElem?_drop, Array.getElem?_toList] at h
        split at h
        ·exact h
        ·cases h
      ·rename_i hagg
       rw [htd] at hagg
       split at h
       ·rename_i dd hdd
        have hlt : off < arr.size := Nat.lt_of_lt_of_le (List.getElem?_eq_some_iff.1 hdd).1 k3
        have hav : arr[off]? = some arr[off] := Array.getElem?_eq_getElem hlt
        exact sP h (cell off dd _ hdd hav) (run _ (P7 hu hagg b' off _ (by rw [cell_of_heap hw]; exact hav)))
       ·exact h.elim
     ·rw [hbox] at k1; cases k1
    ·exact h.elim
   ·rename_i hbox
    have blkAt : ∀ c, bE R.cs p = some c → c ≠ [] → c.length ≤ arr.size ∧ ∀ (i : Nat) d v, c[i]? = some d → arr[i]? = some v → Tr w (okb w own) own (r, p ++ [i]) d v := fun c hc hne => by
     rcases hs.blk hR hbox hc with ⟨b', arr', e', k1, k2, k3, k4⟩ | ⟨hnil, _⟩
     ·have hbb := hs.inj b' b _ k1 hb
      subst hbb
      rw [hw] at k2; cases k2
      exact ⟨k3, k4⟩
     ·exact absurd hnil hne
    split at h
    ·rename_i hagg
     rw [htd] at hagg
     obtain ⟨ds, ⟨c, hcb, hds, hdl⟩, h⟩ := h
     have hne : c ≠ [] := by intro e0; subst e0; simp at hds; subst hds; simp at hdl; exact nz hc hdl.symm
     obtain ⟨k3, k4⟩ := blkAt c hcb hne
     have hle : off + it.size ≤ c.length := by
      rw [← hds, List.length_take, List.length_drop] at hdl; rw [hsz]
      have := nz hc; omega
     have hlen : ((arr.toList.drop off).take it.size).length = it.size := by
      simp only [List.length_take, List.length_drop, Array.length_toList]; omega
     refine sP (v := .agg ((arr.toList.drop off).take it.size).toArray) h (.agg _ _ ?_ (fun i d v h1 h2 => ?_)) (run _ (F6 hu hi hagg b off _ hlen (fun j v h => ?_)))
     ·rw [List.size_toArray, hlen, Aaa, hdl, hsz]
     ·have hil : i < ds.length := by rw [← Aaa r p ds off]; exact (List.getElem?_eq_some_iff.1 h1).1
      obtain ⟨di, hdi⟩ : ∃ di, ds[i]? = some di := ⟨_, List.getElem?_eq_getElem hil⟩
      rw [Aqc r p ds off i _ hdi] at h1
      cases h1
      have hci : c[off + i]? = some di := by
       rw [← hds, List.getElem?_take, List.getElem?_drop] at hdi
       split at hdi
       ·exact hdi
       ·cases hdi
      refine Tr.lift h0 (fun R1 hR1 hno => by rw [hR] at hR1; cases hR1; exact Aah (by simpa using hbox) hcb hci hno) (k4 (off + i) di v hci ?_)
      ·simp only [List.getElem?_toArray, List.getElem?_take, List.getElem?_drop, Array.getElem?_toList] at h2
       split at h2
       ·exact h2
       ·cases h2
     ·rw [cell_of_heap hw]
      simp only [List.getElem?_take, List.getElem?_drop, Array.getElem?_toList] at h
      split at h
      ·exact h
      ·cases h
    ·rename_i hagg
     rw [htd] at hagg
     obtain ⟨dd, ⟨c, hcb, hdd⟩, h⟩ := h
     have hne : c ≠ [] := by intro e0; rw [e0] at hdd; simp at hdd
     obtain ⟨k3, k4⟩ := blkAt c hcb hne
     have hlt : off < arr.size := Nat.lt_of_lt_of_le (List.getElem?_eq_some_iff.1 hdd).1 k3
     have hav : arr[off]? = some arr[off] := Array.getElem?_eq_getElem hlt
     exact sP h (Tr.lift h0 (fun R1 hR1 hno => by rw [hR] at hR1; cases hR1; exact Aah (by simpa using hbox) hcb hdd hno) (k4 off dd _ hdd hav)) (run _ (P7 hu hagg b off _ (by rw [cell_of_heap hw]; exact hav)))
  ·exact h.elim
 ·rename_i cs off
  have hsh := hx.cptr_inv
  cases hsh with
  | cptr _ _ b q hb hcc hr =>
   have val : ∀ j, j < cs.length → ∃ v, w.cell? ⟨b, q + j, none⟩ = some v := fun j hj => Option.isSome_iff_exists.1 (hcc j hj)
   split at h
   ·rename_i hagg
    rw [htd] at hagg
    obtain ⟨ds, hds, hdl, h⟩ := h
    have hle : off + it.size ≤ cs.length := by
     rw [← hds, List.length_take, List.length_drop] at hdl; rw [hsz]
     have := nz hc; omega
    let vs : List Value := (List.range it.size).map fun j => (w.cell? ⟨b, q + off + j, none⟩).getD .nilFunc
    have hvs : ∀ j, j < it.size → ∃ v, vs[j]? = some v ∧ w.cell? ⟨b, q + off + j, none⟩ = some v := fun j hj => by
     obtain ⟨v, hv⟩ := val (off + j) (by omega)
     rw [← Nat.add_assoc] at hv
     exact ⟨v, by simp [vs, hj, hv], hv⟩
    have hvl : vs.length = it.size := by simp [vs]
    refine sP (v := .agg vs.toArray) h (.agg _ _ (by rw [List.size_toArray, hvl, hdl, hsz]) (fun i d v h1 h2 => ?_)) (run _ (F6 hu hi hagg b (q + off) vs hvl (fun j v hj => ?_)))
    ·have hil : i < it.size := by rw [hsz, ← hdl]; exact (List.getElem?_eq_some_iff.1 h1).1
     obtain ⟨u, hu1, hu2⟩ := hvs i hil
     simp only [List.getElem?_toArray] at h2
     rw [hu1] at h2; cases h2
     rw [← hds, List.getElem?_take, List.getElem?_drop] at h1
     split at h1
     ·exact .sh _ _ (hr (off + i) d _ h1 (by rw [← Nat.add_assoc]; exact hu2))
     ·cases h1
    ·have hjl : j < it.size := by rw [← hvl]; exact (List.getElem?_eq_some_iff.1 hj).1
     obtain ⟨u, hu1, hu2⟩ := hvs j hjl
     rw [hu1] at hj; cases hj
     exact hu2
   ·rename_i hagg
    rw [htd] at hagg
    obtain ⟨dd, hdd, h⟩ := h
    obtain ⟨u, hu1⟩ := val off (List.getElem?_eq_some_iff.1 hdd).1
    exact sP h (.sh _ _ (hr off dd u hdd hu1)) (run _ (P7 hu hagg b (q + off) u hu1))
 ·exact h.elim
theorem Ajg (hT : TabOk P T) (hs : Sim w0 (fun i => env.getD i .undef) rt (fun i => a.tmps.getD i Go.undef) w own) (hg : cZ w0 env rt n a o.dst K Kc) (t : TypeId) (x : Operand)
  (ho : o.op = .load t x) (h : eJ T rt t (aM env x) K) : o.wp P a w Kc Q := by
 obtain ⟨v, res, hk, h1, h2, hm, hr⟩ := Afk (P := P) hT hs t (bZ hs x) h
 have hrt : cS rt n res = rt := by simp [cS, h1, h2, cW]
 exact gZ (by simp [execOp, ho, hr]) (hg res v w own hk (by rw [hrt]; exact hs) (by rw [hrt]; exact hm))
theorem Asa (hT : TabOk P T) (hs : Sim w0 (fun i => env.getD i .undef) rt (fun i => a.tmps.getD i Go.undef) w own) (hg : cZ w0 env rt n a o.dst K Kc) (s : TypeId) (x : Operand) (f : Nat)
  (ho : o.op = .field s x f) (h : uH T s (aM env x) f K) : o.wp P a w Kc Q := by
 have hx := bZ hs x
 unfold uH at h
 have h1 := aO h; clear h; obtain ⟨hsz, h⟩ := h1
 obtain ⟨i, d, _, hu, _, _, _, hty⟩ := hT.info (nz hsz)
 split at h
 ·rename_i off ti ds hf hxe
  have h1 := aO h; clear h; obtain ⟨hti, h⟩ := h1
  rw [hxe] at hx
  obtain ⟨vs, hv, hl, hr⟩ := hx.agg_inv
  unfold uQ at hf
  split at hf
  ·rename_i fs hfs
   split at hf
   ·rename_i o' t' hft
    simp only [Option.some.injEq, Prod.mk.injEq] at hf
    obtain ⟨rfl, rfl⟩ := hf
    rw [hfs] at hty
    obtain ⟨fa, rfl, rfl⟩ := Ty.ofDesc_struct hty.symm
    simp only [List.getElem?_map, Option.map_eq_some_iff, Array.getElem?_toList] at hft
    obtain ⟨fd, hfd, he⟩ := hft
    cases he
    obtain ⟨it, dt, hi, hut, hsz', _, _, htd⟩ := hT.info (nz hti)
    have ha := K4 (P := P) (w := w) hut
    rw [← htd] at ha
    split at h
    ·rename_i hagg
     have h1 := aO h; clear h; obtain ⟨hle, h⟩ := h1
     rw [Nat.ble_eq] at hle
     refine cG hs hg h (v := .agg (vs.extract fd.offset (fd.offset + it.size))) (.agg _ _ ?_ (fun i d v h1 h2 => ?_)) ?_
     ·simp only [Array.size_extract, List.length_take, List.length_drop, hl]; omega
     ·simp only [List.getElem?_take, List.getElem?_drop] at h1
      rw [Array.getElem?_extract] at h2
      split at h1
      ·split at h2
       ·exact hr _ d v h1 h2
       ·cases h2
      ·cases h1
     ·simp [execOp, ho, hv, Instr.field, run_underlying hu, hfd, asAgg, part, ha, hagg, sizeOf, typeInfo, hi]
    ·rename_i hagg
     split at h
     ·rename_i dd hdd
      have hlt : fd.offset < vs.size := by rw [hl]; exact (List.getElem?_eq_some_iff.1 hdd).1
      refine cG hs hg h (hr _ dd vs[fd.offset] hdd (Array.getElem?_eq_getElem hlt)) ?_
      simp [execOp, ho, hv, Instr.field, run_underlying hu, hfd, asAgg, part, ha, hagg, Array.getElem?_eq_getElem hlt]
     ·exact h.elim
   ·cases hf
  ·cases hf
 ·exact h.elim
end
end Go.Vm
namespace Go.Vm
open Go Go.RowKit
section
variable {w : World} {ok : Nat → Prop} {own : Nat → Option Lab} {rt : RT}
theorem Sh.one {d : D} {v : Value} (h : Sh w ok d v) (hd : d.one = true) : v.oneCell' = true := by
 cases h <;> first | rfl | (simp [D.one] at hd; done) | skip
 cases v <;> first | rfl | (simp [D.one] at hd)
theorem Tr.one {l : Lab} {d : D} {v : Value} (h : Tr w ok own l d v) (hd : d.one = true) : v.oneCell' = true := by
 cases h with
 | sh _ _ _ _ h => exact h.one hd
 | nil => rfl
 | own => rfl
theorem Mt.one {d : D} {v : Value} (h : Mt w ok own rt d v) (hd : d.one = true) : v.oneCell' = true := by
 cases h with
 | undef => simp [D.one] at hd
 | sh _ _ h => exact h.one hd
 | ref _ _ _ _ _ _ _ h1 _ => exact h1
 | ptr _ _ _ _ _ h1 _ => exact h1
 | agg => simp [D.one] at hd
 | tup => simp [D.one] at hd
 | fn => rfl
theorem oneCell_cells {v : Value} (h : v.oneCell' = true) : v.cells = #[v] := by
 cases v <;> first | rfl | (simp [Value.oneCell'] at h)
theorem Mt.cells {d : D} {v : Value} {cs : List D} (h : Mt w ok own rt d v) (hc : d.cells = some cs) :
  v.cells.size = cs.length ∧ (∀ (i : Nat) x u, cs[i]? = some x → v.cells[i]? = some u → Mt w ok own rt x u) ∧ (∀ x ∈ cs, x.one = true) := by
 have single : d.one = true → cs = [d] → v.cells.size = cs.length ∧ (∀ (i : Nat) x u, cs[i]? = some x → v.cells[i]? = some u → Mt w ok own rt x u) ∧ (∀ x ∈ cs, x.one = true) := by
  intro h1 h2
  subst h2
  rw [oneCell_cells (h.one h1)]
  refine ⟨rfl, fun i x u hx hu => ?_, fun x hx => by simp at hx; rw [hx]; exact h1⟩
  cases i with
  | zero => simp at hx hu; subst hx; subst hu; exact h
  | succ i => simp at hx
 unfold D.cells at hc
 split at hc
 ·rename_i ds
  split at hc
  ·rename_i hall
   simp only [Option.some.injEq] at hc; subst hc
   obtain ⟨vs, rfl, hl, hr⟩ := h.agg_inv
   exact ⟨hl, hr, fun x hx => List.all_eq_true.1 hall x hx⟩
  ·cases hc
 ·cases hc
 ·cases hc
 ·split at hc
  ·rename_i h1; simp only [Option.some.injEq] at hc; exact single h1 hc.symm
  ·cases hc
theorem rP (z : Value) : z.cells.size = (zeroCells z).length ∧ ∀ (i : Nat) x u, (zeroCells z)[i]? = some x → z.cells[i]? = some u → Sh w ok x u ∧ x.notOwn = true := by
 refine ⟨by simp [zeroCells], fun i x u hx hu => ?_⟩
 simp only [zeroCells, List.getElem?_map, Array.getElem?_toList, hu, Option.map_some, Option.some.injEq] at hx
 subst hx
 cases u <;> first | exact ⟨.kb _, rfl⟩ | exact ⟨.lit _, rfl⟩
end
section
variable {P : Program} {T : Tab} {w0 : Base} {w : World} {env : List D} {rt : RT} {own : Nat → Option Lab} {a : Act} {n : Nat} {o : Oper} {K : Res → Prop} {Kc : Act → World → Prop} {Q : Exit → Act → World → Prop}
theorem pB (rt : RT) (n : Nat) (d : D) (x : Option Root) (rd : List Nat) : cS rt n { val := d, new := [x], rd := rd } = rt.set n x := by
 simp [cS, cW, oI]
theorem Aqq (hT : TabOk P T) (hs : Sim w0 (fun i => env.getD i .undef) rt (fun i => a.tmps.getD i Go.undef) w own) (hn : rt n = none) (hg : cZ w0 env rt n a o.dst K Kc) (e : TypeId)
  (ho : o.op = .alloc e) (h : bN P T env rt n (.alloc e) K) : o.wp P a w Kc Q := by
 simp only [bN] at h
 have h1 := aO h; clear h; obtain ⟨hc, h⟩ := h1
 obtain ⟨it, d, hi, hu, hsz, _, hz, htd⟩ := hT.info (nz hc)
 have hr : (execOp a.eval o).run P w = .ok (.value (.pointer (some ⟨w.heap.size, 0, none⟩))) (w.alloc (.cells (T.get e).zero.cells e)) := by
  simp [execOp, ho, Instr.alloc, zeroValue, typeInfo, hi, hz, newVar, newRow]
 have hzc := rP (w := w) (ok := okb w own) (T.get e).zero
 refine gZ hr (hg _ _ _ (fH own w.heap.size (n, [])) h ?_ ?_)
 ·rw [pB]
  exact hs.newRoot n hn _ e ⟨true, 1, zeroCells (T.get e).zero⟩ (by rw [hzc.1]; exact Nat.le_refl _) (fun i d v h1 h2 => ⟨fun _ => .sh _ _ (hzc.2 i d v h1 h2).1, fun h => by cases h⟩)
 ·rw [pB]
  exact Sim.newPtr n _ e _
theorem Asn (hs : Sim w0 (fun i => env.getD i .undef) rt (fun i => a.tmps.getD i Go.undef) w own) (hn : rt n = none) (hg : cZ w0 env rt n a o.dst K Kc) (e : TypeId) (x : Operand)
  (ho : o.op = .box e x) (h : bN P T env rt n (.box e x) K) : o.wp P a w Kc Q := by
 simp only [bN] at h
 have hx := bZ hs x
 split at h
 ·rename_i cs hcs
  obtain ⟨hl, hm, _⟩ := hx.cells hcs
  have hr : (execOp a.eval o).run P w = .ok (.value (.pointer (some ⟨w.heap.size, 0, none⟩))) (w.alloc (.cells (a.eval x).cells e)) := by
   simp [execOp, ho, Instr.box, newVar, newRow]
  refine gZ hr (hg _ _ _ (fH own w.heap.size (n, [])) h ?_ ?_)
  ·rw [pB]
   exact hs.newRoot n hn _ e ⟨true, 1, cs⟩ (by rw [hl]; exact Nat.le_refl _) (fun i d v h1 h2 => ⟨fun _ => hm i d v h1 h2, fun h => by cases h⟩)
  ·rw [pB]
   exact Sim.newPtr n _ e _
 ·exact h.elim
theorem getElem?_replicate_flatten {α : Type} (zs : List α) : ∀ (m i : Nat), i < m * zs.length → (List.replicate m zs).flatten[i]? = zs[i % zs.length]? := by
 intro m
 induction m with
 | zero => intro i h; omega
 | succ m ih =>
  intro i h
  rw [List.replicate_succ, List.flatten_cons]
  by_cases hi : i < zs.length
  ·rw [List.getElem?_append_left hi, Nat.mod_eq_of_lt hi]
  ·rw [Nat.add_mul] at h
   rw [List.getElem?_append_right (by omega), ih (i - zs.length) (by omega)]
   congr 1
   rw [Nat.mod_eq_sub_mod (a := i) (by omega)]
theorem wB (m : Nat) (ds : List D) : gO m ds = (List.replicate m ds).flatten := by
 unfold gO; split
 ·induction m with
  | zero => rfl
  | succ m ih => rw [List.replicate_succ, List.replicate_succ, List.flatten_cons, ih]; rfl
 ·rfl
theorem oP (m : Nat) (ds : List D) : (gO m ds).length = m * ds.length := by
 rw [wB]; simp
theorem O9 (z : Array Value) (m i : Nat) (hi : i < m) (hz : 0 < z.size) : (madeCells z m)[i]? = z[i % z.size]? := by
 have : i % z.size < z.size := Nat.mod_lt _ hz
 simp [madeCells, hi, this]
theorem As1 (hT : TabOk P T) (hs : Sim w0 (fun i => env.getD i .undef) rt (fun i => a.tmps.getD i Go.undef) w own) (hn : rt n = none) (hg : cZ w0 env rt n a o.dst K Kc) (t : TypeId) (l c : Operand)
  (ho : o.op = .makeSlice t l c) (h : sY T n t (aM env l) (aM env c) K) : o.wp P a w Kc Q := by
 have hl := bZ hs l
 have hc := bZ hs c
 unfold sY at h
 have h1 := aO h; clear h; obtain ⟨hct, h⟩ := h1
 obtain ⟨it, d, _, hu, _, _, _, htd⟩ := hT.info (nz hct)
 split at h
 ·rename_i e x y hty hle hce
  have h1 := aO h; clear h; obtain ⟨hes, h⟩ := h1
  simp only [Bool.and_eq_true, Nat.beq_eq] at hes
  have hez := nz hes.1
  rw [hty] at htd
  have := Ty.ofDesc_slice htd.symm; subst this
  obtain ⟨ie, de, hie, _, hsz, hby, hze, _⟩ := hT.info hez
  rw [hle] at hl; rw [hce] at hc
  have hlv := hl.lit_inv
  have hcv := hc.lit_inv
  obtain ⟨⟨h0, h2, h3, h4⟩, k0, hk0, h⟩ := h
  rw [lQ] at h
  obtain ⟨cs0, hcs0, h⟩ := h
  subst hk0; subst hcs0
  have hzl := rP (w := w) (ok := okb w own) (T.get e).zero
  have hzs : (T.get e).zero.cells.size = (T.get e).size := by rw [hzl.1]; exact hes.2
  have hbm : (ie.bytes : Int) * y ≤ 281474976710656 := by
   rw [hby]
   have e1 : ((T.get e).bytes : Int) * y = ((y.toNat * (T.get e).bytes : Nat) : Int) := by
    rw [Int.natCast_mul, Int.toNat_of_nonneg (by omega), Int.mul_comm]
   rw [e1]; omega
  have hrun := run_make (P := P) w t e ie _ hu hie hze .i64 .i64 x y h0 h2 hbm (by omega)
  have hr : (execOp a.eval o).run P w = .ok (.value (.slice (some ⟨w.heap.size, 0, none⟩) x.toNat y.toNat)) (w.alloc (.cells (madeCells (T.get e).zero.cells (y.toNat * ie.size)) e)) := by
   simp [execOp, ho, hlv, hcv, hrun]
  have hxy : x.toNat ≤ y.toNat := by omega
  have hmul : x.toNat * (T.get e).size ≤ y.toNat * (T.get e).size := Nat.mul_le_mul_right _ hxy
  refine gZ hr (hg _ _ _ (fH own w.heap.size (n, [])) h ?_ ?_)
  ·rw [pB]
   refine hs.newRoot n hn _ e ⟨false, (T.get e).size, gO x.toNat (zeroCells (T.get e).zero)⟩ ?_ (fun i d v h1 h2 => ⟨fun h => (by cases h), fun _ => ?_⟩)
   ·simp only [oP, size_madeCells]; rw [hes.2, hsz]; exact hmul
   ·have hi : i < x.toNat * (T.get e).size := by
     have := (List.getElem?_eq_some_iff.1 h1).1
     simp only [oP] at this; rwa [hes.2] at this
    have hp : 0 < (T.get e).zero.cells.size := by rw [hzs]; omega
    rw [O9 _ _ _ (by rw [hsz]; omega) hp] at h2
    simp only [wB] at h1
    rw [getElem?_replicate_flatten _ _ _ (by rw [hes.2]; exact hi)] at h1
    rw [hzl.1] at h2
    exact (hzl.2 _ d v h1 h2).symm
  ·rw [pB]
   exact Sim.newRef n _ e _ _ _ _ hxy (by simp [size_madeCells, hsz])
 ·exact h.elim
theorem Agt (P : Program) {tm : Nat → Value} {env : Nat → D} {r b : Nat} : ∀ (ds : List D) (vs : List Value) (off i : Nat) (rt : RT) (R : Root) (w : World), Sim w0 env rt tm w own → rt r = some (some R) → R.box = true →
  own b = some (r, []) → vs.length = ds.length → off + i + ds.length ≤ R.cs.length →
  (∀ (j : Nat) d v, ds[j]? = some d → vs[j]? = some v → Mt w (okb w own) own rt d v ∧ v.oneCell' = true) →
  ∃ w', (storeCells ⟨b, off, none⟩ vs i).run P w = .ok () w' ∧ Sim w0 env (rt.set r (some { R with cs := setMany R.cs (off + i) ds })) tm w' own := by
 intro ds
 induction ds with
 | nil =>
  intro vs off i rt R w hs hR _ _ hl _ _
  have : vs = [] := List.eq_nil_of_length_eq_zero hl
  subst this
  refine ⟨w, rfl, ?_⟩
  have : rt.set r (some { R with cs := setMany R.cs (off + i) [] }) = rt := by
   funext r1; unfold RT.set; split
   ·rename_i e; rw [e, hR]; rfl
   ·rfl
  rw [this]; exact hs
 | cons d ds ih =>
  intro vs off i rt R w hs hR hbox hb hl hle hm
  match vs, hl with
  | v :: vs, hl =>
   simp only [List.length_cons, Nat.add_right_cancel_iff] at hl hle
   obtain ⟨hmv, h1v⟩ := hm 0 d v rfl rfl
   rcases hs.roots r R hR with ⟨b', arr, e, k1, k2, k3, k4⟩ | ⟨k1, _, _⟩
   ·have hbb := hs.inj b' b _ k1 hb
    subst hbb
    have hlt : off + i < arr.size := by omega
    have hcell : w.cell? ⟨b', off + i, none⟩ = some arr[off + i] := by rw [cell_of_heap k2]; exact Array.getElem?_eq_getElem hlt
    have hfro : w.frozen? ⟨b', off + i, none⟩ = false := by simp [World.frozen?, k2]
    have hst := hs.storeBox (off := off + i) (v := v) (d := d) hR hbox hb hmv
    have hfr := Sim.storeFr (rt := rt) (own := own) (R := R) (R' := { R with cs := R.cs.set (off + i) d }) (Stored.setCell w b' (off + i) v) (by simp [World.setCell]) hR hb (fun q hq => by
     rcases hq with e | ⟨h1, _⟩
     ·exact .inl e
     ·rw [hbox] at h1; cases h1)
    obtain ⟨w', hrun, hsim⟩ := ih vs off (i + 1) _ { R with cs := R.cs.set (off + i) d } _ hst (RT.set_self _ _ _) hbox hb hl (by simp; omega)
     (fun j d1 v1 h1 h2 => by
      obtain ⟨x1, x2⟩ := hm (j + 1) d1 v1 (by simpa using h1) (by simpa using h2)
      exact ⟨x1.frame hfr, x2⟩)
    refine ⟨w', ?_, ?_⟩
    ·simp only [storeCells, Sem.run_bind, Addr.add_off]
     rw [run_store P w _ v _ h1v, hcell]
     simp only [hfro, Bool.false_eq_true, if_false, Result.andThen_ok]
     exact hrun
    ·have e1 : (rt.set r (some { R with cs := R.cs.set (off + i) d })).set r (some { box := R.box, sz := R.sz, cs := setMany (R.cs.set (off + i) d) (off + (i + 1)) ds }) = rt.set r (some { R with cs := setMany R.cs (off + i) (d :: ds) }) := by
      funext r1; unfold RT.set; split
      ·rfl
      ·rfl
     rw [e1] at hsim; exact hsim
   ·rw [hbox] at k1; cases k1
theorem zX (rt : RT) (n r : Nat) (d : D) (x : Option Root) (rd : List Nat) : cS rt n { val := d, wr := [(r, x)], rd := rd } = rt.set r x := by
 simp [cS, cW]
theorem Aet (rt : RT) (n r r2 : Nat) (d : D) (x y : Option Root) (rd : List Nat) : cS rt n { val := d, wr := [(r2, y), (r, x)], rd := rd } = (rt.set r2 y).set r x := by
 simp [cS, cW]
theorem Ab9 (hT : TabOk P T) (hs : Sim w0 (fun i => env.getD i .undef) rt (fun i => a.tmps.getD i Go.undef) w own) (hg : cZ w0 env rt n a o.dst K Kc) (t : TypeId) (x y : Operand)
  (ho : o.op = .store t x y) (h : fB T rt t (aM env x) (aM env y) K) : o.wp P a w Kc Q := by
 have hx := bZ hs x
 have hy := bZ hs y
 unfold fB at h
 have h1 := aO h; clear h; obtain ⟨hct, h⟩ := h1
 obtain ⟨it, d, hi, hu, hsz, _, _, htd⟩ := hT.info (nz hct)
 split at h
 ·rename_i r p off hxe
  rw [hxe] at hx
  split at h
  ·rename_i R hR
   obtain ⟨b, arr, e, hb, hw, hv⟩ := hx.ptr_inv.2 R hR
   have run : ∀ w', (a.eval y).cells.size = it.size → (storeCells ⟨b, off, none⟩ (a.eval y).cells.toList).run P w = .ok () w' → (execOp a.eval o).run P w = .ok .skip w' := fun w' h1 h2 => by
    simp [execOp, ho, hv, Instr.storeAt, Instr.sureAddr, storeVar, sizeOf, typeInfo, hi, h1, h2]
   split at h
   ·rename_i hbox
    split at h
    ·rename_i ds hds
     have h1 := aO h; clear h; obtain ⟨hle, h⟩ := h1
     simp only [Bool.and_eq_true, Nat.beq_eq, Nat.ble_eq] at hle
     obtain ⟨hl, hm, hone⟩ := hy.cells hds
     obtain ⟨w', hrun, hsim⟩ := Agt (w0 := w0) (own := own) P ds (a.eval y).cells.toList off 0 rt R w hs hR hbox hb (by simpa using hl) (by simpa using hle.2)
      (fun j d v h1 h2 => by
       have hmm := hm j d v h1 (by simpa using h2)
       exact ⟨hmm, hmm.one (hone d (List.mem_of_getElem? h1))⟩)
     refine M8 (run w' (by rw [hl, hsz]; exact hle.1) hrun) (hg _ Go.undef w' own h ?_ (.undef _))
     rw [zX]; simpa using hsim
    ·exact h.elim
   ·rename_i hbox
    have h1 := aO h; clear h; obtain ⟨hs1, h⟩ := h1
    rw [Nat.beq_eq] at hs1
    have core : ∀ (dd : D) (cs' : List D), dd.notOwn = true → dd.one = true → Sh w (okb w own) dd (a.eval y) → jG R.cs p off dd cs' → K { val := .undef, wr := [(r, some { R with cs := cs' })], rd := [r] } → o.wp P a w Kc Q := by
     intro dd cs' hno hone hsh hrow hk
     obtain ⟨c, hc1, hc2, hc3, hc4⟩ := hrow
     have h1v := hsh.one hone
     rcases hs.blk hR hbox hc1 with ⟨b', arr', e', k1, k2, k3, k4⟩ | ⟨hnil, _⟩
     ·have hbb := hs.inj b' b _ k1 hb
      subst hbb
      rw [hw] at k2; cases k2
      have hlt : off < arr.size := by omega
      have hcell : w.cell? ⟨b', off, none⟩ = some arr[off] := by rw [cell_of_heap hw]; exact Array.getElem?_eq_getElem hlt
      have hfro : w.frozen? ⟨b', off, none⟩ = false := by simp [World.frozen?, hw]
      have hsim := hs.storeRow hR hbox hb hc1 hc3 hno hsh
      rw [hc4] at hsim
      have hcells := oneCell_cells h1v
      refine M8 (run _ (by rw [hcells, hsz, hs1]; rfl) ?_) (hg _ Go.undef _ own hk (by rw [zX]; exact hsim) (.undef _))
      rw [hcells]
      simp only [storeCells, Sem.run_bind, Addr.add_off, Nat.add_zero]
      rw [run_store P w _ _ _ h1v, hcell]
      simp only [hfro, Bool.false_eq_true, if_false, Result.andThen_ok, Sem.run_pure]
     ·rw [hnil] at hc2; simp at hc2
    split at h
    ·rename_i v hye
     have h1 := aO h; clear h; obtain ⟨hone, h⟩ := h1
     obtain ⟨cs', hrow, h⟩ := h
     rw [hye] at hy
     have := hy.lit_inv
     exact core _ cs' rfl hone (by rw [this]; exact .lit _) hrow h
    ·rename_i bb hye
     obtain ⟨cs', hrow, h⟩ := h
     rw [hye] at hy
     have := hy.kb_inv
     exact core _ cs' rfl rfl (by rw [this]; exact .lit _) hrow h
    ·rename_i sz' c' hye
     obtain ⟨cs', hrow, h⟩ := h
     rw [hye] at hy
     exact core _ cs' rfl rfl hy.list_inv hrow h
    ·rename_i r' p' sz' off' m' hye
     have h1 := aO h; clear h; obtain ⟨hcs, h⟩ := h1
     simp only [Bool.and_eq_true, Bool.not_eq_true', ← Bool.not_eq_true, Nat.beq_eq] at hcs
     rw [hye] at hy
     split at h
     ·rename_i R' hR'
      have h1 := aO h; clear h; obtain ⟨hbox', h⟩ := h1
      obtain ⟨hm, hlt, hno, cs', rfl, h⟩ := h
      have href := hy.ref_inv.2 R' hR'
      have h1v : (a.eval y).oneCell' = true := by
       cases hy with
       | ref _ _ _ _ _ _ _ h1 _ => exact h1
       | sh _ _ h => cases h
      rcases hs.roots r R hR with ⟨b', arr', e', k1, k2, k3, k4⟩ | ⟨_, k2, _⟩
      ·have hbb := hs.inj b' b _ k1 hb
       subst hbb
       rw [hw] at k2; cases k2
       have hcell : w.cell? ⟨b', off, none⟩ = some arr[off] := by rw [cell_of_heap hw]; exact Array.getElem?_eq_getElem (by omega)
       have hfro : w.frozen? ⟨b', off, none⟩ = false := by simp [World.frozen?, hw]
       have hsim := hs.graft hR (by simpa using hbox) hb hR' (by simpa using hbox') hcs.2 hlt hno hcs.1 hm href
       have hcells := oneCell_cells h1v
       refine M8 (run _ (by rw [hcells, hsz, hs1]; rfl) ?_) (hg _ Go.undef _ _ h (by rw [Aet]; exact hsim) (.undef _))
       rw [hcells]
       simp only [storeCells, Sem.run_bind, Addr.add_off, Nat.add_zero]
       rw [run_store P w _ _ _ h1v, hcell]
       simp only [hfro, Bool.false_eq_true, if_false, Result.andThen_ok, Sem.run_pure]
      ·rw [k2] at hlt; simp at hlt
     ·exact h.elim
    ·exact h.elim
  ·exact h.elim
 ·exact h.elim
end
end Go.Vm
namespace Go.Vm
open Go Go.RowKit
def A9 (r2 nr : Nat) (l : Lab) : Lab := if l.1 = r2 then (nr, 0 :: l.2) else l
def jF (own : Nat → Option Lab) (b0 r2 nr : Nat) : Nat → Option Lab := fun b => if b = b0 then some (nr, []) else (own b).map (A9 r2 nr)
theorem Sim.adopt {w0 : Base} {w : World} {env : Nat → D} {rt : RT} {tm : Nat → Value} {own : Nat → Option Lab} (hs : Sim w0 env rt tm w own)
  {r2 nr sz m : Nat} {R2 : Root} {v : Value} {e : TypeId} (hR : rt r2 = some (some R2)) (hbox : R2.box = false) (hnr : rt nr = none) (hz : sz ≠ 0) (hm : m * sz = R2.cs.length)
  (hv : mF w own r2 [] sz 0 m v) :
  Sim w0 env ((rt.set r2 none).set nr (some ⟨false, 1, [.list true sz R2.cs]⟩)) tm (w.alloc (.cells #[v] e)) (jF own w.heap.size r2 nr) := by
 have hne : r2 ≠ nr := fun e => by rw [e, hnr] at hR; cases hR
 have hlab : ∀ b l, own b = some l → l.1 ≠ nr := fun b l h e => by
  obtain ⟨r, p⟩ := l; obtain ⟨_, _, hR'⟩ := hs.lab b r p h; simp only at e; rw [e] at hR'; exact hR' hnr
 have hlt : ∀ b l, own b = some l → b < w.heap.size := fun b l h => by obtain ⟨r, p⟩ := l; exact (hs.lab b r p h).2.1
 have hheap : ∀ b, b < w.heap.size → (w.alloc (.cells #[v] e)).heap[b]? = w.heap[b]? := fun b hb => heap_alloc_old w _ hb
 have ho : ∀ b r p, jF own w.heap.size r2 nr b = some (r, p) → (b = w.heap.size ∧ r = nr ∧ p = []) ∨ (b ≠ w.heap.size ∧ r = nr ∧ ∃ q, p = 0 :: q ∧ own b = some (r2, q)) ∨ (b ≠ w.heap.size ∧ r ≠ nr ∧ r ≠ r2 ∧ own b = some (r, p)) := by
  intro b r p h
  unfold jF at h
  split at h
  ·rename_i e1; cases h; exact .inl ⟨e1, rfl, rfl⟩
  ·rename_i e1
   simp only [Option.map_eq_some_iff] at h
   obtain ⟨l, hl, h⟩ := h
   unfold A9 at h
   split at h
   ·rename_i e2
    cases h
    refine .inr (.inl ⟨e1, rfl, l.2, rfl, ?_⟩)
    rw [hl, ← e2]
   ·rename_i e2
    subst h
    exact .inr (.inr ⟨e1, hlab b _ hl, e2, hl⟩)
 have hkeep : ∀ r, r ≠ nr → r ≠ r2 → ∀ b p, own b = some (r, p) ↔ jF own w.heap.size r2 nr b = some (r, p) := by
  intro r h1 h2 b p
  constructor
  ·intro h
   have := hlt b _ h
   unfold jF
   rw [if_neg (by omega), h, Option.map_some]
   unfold A9; rw [if_neg h2]
  ·intro h
   rcases ho b r p h with ⟨_, e1, _⟩ | ⟨_, e1, _⟩ | ⟨_, _, _, h⟩
   ·exact absurd e1 h1
   ·exact absurd e1 h1
   ·exact h
 have hr2 : ∀ b q, own b = some (r2, q) ↔ jF own w.heap.size r2 nr b = some (nr, 0 :: q) := by
  intro b q
  constructor
  ·intro h
   have := hlt b _ h
   unfold jF
   rw [if_neg (by omega), h, Option.map_some]
   unfold A9; rw [if_pos rfl]
  ·intro h
   rcases ho b _ _ h with ⟨_, _, e2⟩ | ⟨_, _, q', e2, h⟩ | ⟨_, e1, _⟩
   ·cases e2
   ·cases e2; exact h
   ·exact absurd rfl e1
 have hlive : ∀ r R', rt r ≠ none → ((rt.set r2 none).set nr (some ⟨false, 1, [.list true sz R2.cs]⟩)) r = some (some R') → rt r = some (some R') ∧ r ≠ nr ∧ r ≠ r2 := by
  intro r R' h0 h
  unfold RT.set at h
  split at h
  ·rename_i e1; rw [e1, hnr] at h0; exact absurd rfl h0
  ·rename_i e1
   split at h
   ·cases h
   ·rename_i e2; exact ⟨h, e1, e2⟩
 have hfr : Fr w (okb w own) own rt (w.alloc (.cells #[v] e)) (okb (w.alloc (.cells #[v] e)) (jF own w.heap.size r2 nr)) (jF own w.heap.size r2 nr) ((rt.set r2 none).set nr (some ⟨false, 1, [.list true sz R2.cs]⟩)) := by
  refine ⟨fun b hk => ⟨⟨?_, by simp; have := hk.2; omega⟩, hheap b hk.2⟩, fun r h => ?_, fun r R' h0 h => ⟨R', (hlive r R' h0 h).1⟩, fun r R R' h0 h b p _ => ?_, fun r R R' p h0 h1 hp => by
   have := (hlive r R' (by rw [h0]; simp) h1).1; rw [h0] at this; cases this; exact hp, fun r R' b p arr e h0 h1 h2 h3 => ?_⟩
  ·unfold jF; rw [if_neg (by have := hk.2; omega), hk.1]; rfl
  ·unfold RT.set; split
   ·simp
   ·split
    ·simp
    ·exact h
  ·obtain ⟨_, h1, h2⟩ := hlive r R' (by rw [h0]; simp) h
   exact hkeep r h1 h2 b p
  ·exact ⟨arr, by rw [hheap b (hlt b _ h2)]; exact h3, rfl⟩
 have hpl : ∀ b, w0.prot b → b < w.heap.size := fun b h => Nat.lt_of_lt_of_le (w0.hp b h) hs.below.size
 have hbel : Kept w0.prot w0 (w.alloc (.cells #[v] e)) := hs.below.trans (Kept.of ((Below.refl w.heap.size w).alloc (Nat.le_refl _) _) hpl)
 refine hs.change hfr hbel (fun r R h => ?_) (fun b r p h => ?_) (fun b b' l h h' => ?_) (fun b r p h hd => (hkeep r (fun e => (by rw [e, hnr] at hd; cases hd)) (fun e => (by rw [e, hR] at hd; cases hd)) b p).1 h)
 ·by_cases hrn : r = nr
  ·subst hrn
   rw [RT.set_self] at h; cases h
   refine .inl ⟨w.heap.size, #[v], e, by simp [jF], heap_alloc_new w _, by simp, fun i d u hi hu => ?_⟩
   unfold bX
   simp only [Bool.false_eq_true, if_false]
   cases i with
   | succ i => simp at hi
   | zero =>
    simp at hi hu; subst hi; subst hu
    rcases hv with ⟨b, arr, e', cap, q, hb, hw, hve, hnc, hcs, hq⟩ | ⟨hve, _, hm0, hnb⟩
    ·have := hq (.inl rfl)
     simp only [Nat.zero_mul] at this; subst this; subst hve
     rcases hs.roots r2 R2 hR with ⟨b', arr', e'', k1, k2, k3, k4⟩ | ⟨_, k2, k3⟩
     ·have hbb := hs.inj b' b _ k1 hb
      subst hbb
      rw [hw] at k2; cases k2
      refine .own _ sz R2.cs b' m cap arr e' hz hm hnc ((hr2 b' []).1 hb) (by rw [hheap b' (hlt b' _ hb)]; exact hw) (by simpa using hcs) k3 (fun i d u hd hu => ?_)
      have hcell := k4 i d u hd hu
      unfold bX at hcell
      rw [hbox] at hcell
      simp only [Bool.false_eq_true, if_false] at hcell
      refine hcell.relab (r, [0] ++ [i]) hfr.ok (fun b q hq => ⟨?_, hheap b (hlt b _ hq)⟩) (fun b q hq => ?_)
      ·simp only [List.cons_append, List.nil_append] at hq ⊢
       exact (hr2 b (i :: q)).1 hq
      ·simp only [List.cons_append, List.nil_append] at hq ⊢
       exact (hr2 b (i :: q)).2 hq
     ·exact absurd hb (k3 b)
    ·subst hve; subst hm0
     have hnil : R2.cs = [] := List.eq_nil_of_length_eq_zero (by rw [← hm]; simp)
     rw [hnil]
     exact .nil _ _ (fun b hb => hnb b ((hr2 b []).2 hb))
  ·have h0 : rt r ≠ none := by
    intro e1
    unfold RT.set at h
    rw [if_neg hrn] at h
    split at h
    ·cases h
    ·rw [e1] at h; cases h
   obtain ⟨k0, k1, k2⟩ := hlive r R h0 h
   exact (hs.roots r R k0).frame hfr (fun b p hp => ⟨(hkeep r k1 k2 b p).1 hp, hheap b (hlt b _ hp)⟩) (fun b p hp => (hkeep r k1 k2 b p).2 hp)
 ·rcases ho b r p h with ⟨e1, e2, e3⟩ | ⟨_, e1, q, _, h1⟩ | ⟨_, h1, h2, h3⟩
  ·exact ⟨fun hp => absurd (hpl b hp) (by omega), by simp [e1], by rw [e2, RT.set_self]; simp⟩
  ·obtain ⟨k1, k2, _⟩ := hs.lab b _ _ h1
   exact ⟨fun hp => (by have := k1 hp; rw [hR] at this; cases this), by simp; omega, by rw [e1, RT.set_self]; simp⟩
  ·obtain ⟨k1, k2, k3⟩ := hs.lab b _ _ h3
   exact ⟨fun hp => (by rw [RT.set_ne _ _ h1, RT.set_ne _ _ h2]; exact k1 hp), by simp; omega, by rw [RT.set_ne _ _ h1, RT.set_ne _ _ h2]; exact k3⟩
 ·obtain ⟨r, p⟩ := l
  rcases ho b r p h with ⟨e1, e2, e3⟩ | ⟨n1, e1, q, e2, h1⟩ | ⟨n1, h1, h2, h3⟩ <;> rcases ho b' r p h' with ⟨e1', e2', e3'⟩ | ⟨n1', e1', q', e2', h1'⟩ | ⟨n1', h1', h2', h3'⟩
  ·rw [e1, e1']
  ·rw [e3] at e2'; cases e2'
  ·exact absurd e2 h1'
  ·rw [e3'] at e2; cases e2
  ·rw [e2] at e2'; cases e2'; exact hs.inj b b' _ h1 h1'
  ·exact absurd e1 h1'
  ·exact absurd e2' h1
  ·exact absurd e1' h1
  ·exact hs.inj b b' _ h3 h3'
def A3 (r2 nr : Nat) (l : Lab) : Lab := if l.1 = r2 then (nr, 1 :: l.2) else l
def jE (own : Nat → Option Lab) (b0 r2 nr : Nat) : Nat → Option Lab := fun b => if b = b0 then some (nr, []) else (own b).map (A3 r2 nr)
theorem Sim.adopt2 {w0 : Base} {w : World} {env : Nat → D} {rt : RT} {tm : Nat → Value} {own : Nat → Option Lab} (hs : Sim w0 env rt tm w own)
  {r2 nr sz m : Nat} {R2 : Root} {v x : Value} {e : TypeId} (hR : rt r2 = some (some R2)) (hbox : R2.box = false) (hnr : rt nr = none) (hz : sz ≠ 0) (hm : m * sz = R2.cs.length)
  (hv : mF w own r2 [] sz 0 m v) :
  Sim w0 env ((rt.set r2 none).set nr (some ⟨false, 2, [.lit x, .list true sz R2.cs]⟩)) tm (w.alloc (.cells #[x, v] e)) (jE own w.heap.size r2 nr) := by
 have hne : r2 ≠ nr := fun e => by rw [e, hnr] at hR; cases hR
 have hlab : ∀ b l, own b = some l → l.1 ≠ nr := fun b l h e => by
  obtain ⟨r, p⟩ := l; obtain ⟨_, _, hR'⟩ := hs.lab b r p h; simp only at e; rw [e] at hR'; exact hR' hnr
 have hlt : ∀ b l, own b = some l → b < w.heap.size := fun b l h => by obtain ⟨r, p⟩ := l; exact (hs.lab b r p h).2.1
 have hheap : ∀ b, b < w.heap.size → (w.alloc (.cells #[x, v] e)).heap[b]? = w.heap[b]? := fun b hb => heap_alloc_old w _ hb
 have ho : ∀ b r p, jE own w.heap.size r2 nr b = some (r, p) → (b = w.heap.size ∧ r = nr ∧ p = []) ∨ (b ≠ w.heap.size ∧ r = nr ∧ ∃ q, p = 1 :: q ∧ own b = some (r2, q)) ∨ (b ≠ w.heap.size ∧ r ≠ nr ∧ r ≠ r2 ∧ own b = some (r, p)) := by
  intro b r p h
  unfold jE at h
  split at h
  ·rename_i e1; cases h; exact .inl ⟨e1, rfl, rfl⟩
  ·rename_i e1
   simp only [Option.map_eq_some_iff] at h
   obtain ⟨l, hl, h⟩ := h
   unfold A3 at h
   split at h
   ·rename_i e2
    cases h
    refine .inr (.inl ⟨e1, rfl, l.2, rfl, ?_⟩)
    rw [hl, ← e2]
   ·rename_i e2
    subst h
    exact .inr (.inr ⟨e1, hlab b _ hl, e2, hl⟩)
 have hkeep : ∀ r, r ≠ nr → r ≠ r2 → ∀ b p, own b = some (r, p) ↔ jE own w.heap.size r2 nr b = some (r, p) := by
  intro r h1 h2 b p
  constructor
  ·intro h
   have := hlt b _ h
   unfold jE
   rw [if_neg (by omega), h, Option.map_some]
   unfold A3; rw [if_neg h2]
  ·intro h
   rcases ho b r p h with ⟨_, e1, _⟩ | ⟨_, e1, _⟩ | ⟨_, _, _, h⟩
   ·exact absurd e1 h1
   ·exact absurd e1 h1
   ·exact h
 have hr2 : ∀ b q, own b = some (r2, q) ↔ jE own w.heap.size r2 nr b = some (nr, 1 :: q) := by
  intro b q
  constructor
  ·intro h
   have := hlt b _ h
   unfold jE
   rw [if_neg (by omega), h, Option.map_some]
   unfold A3; rw [if_pos rfl]
  ·intro h
   rcases ho b _ _ h with ⟨_, _, e2⟩ | ⟨_, _, q', e2, h⟩ | ⟨_, e1, _⟩
   ·cases e2
   ·cases e2; exact h
   ·exact absurd rfl e1
 have hlive : ∀ r R', rt r ≠ none → ((rt.set r2 none).set nr (some ⟨false, 2, [.lit x, .list true sz R2.cs]⟩)) r = some (some R') → rt r = some (some R') ∧ r ≠ nr ∧ r ≠ r2 := by
  intro r R' h0 h
  unfold RT.set at h
  split at h
  ·rename_i e1; rw [e1, hnr] at h0; exact absurd rfl h0
  ·rename_i e1
   split at h
   ·cases h
   ·rename_i e2; exact ⟨h, e1, e2⟩
 have hfr : Fr w (okb w own) own rt (w.alloc (.cells #[x, v] e)) (okb (w.alloc (.cells #[x, v] e)) (jE own w.heap.size r2 nr)) (jE own w.heap.size r2 nr) ((rt.set r2 none).set nr (some ⟨false, 2, [.lit x, .list true sz R2.cs]⟩)) := by
  refine ⟨fun b hk => ⟨⟨?_, by simp; have := hk.2; omega⟩, hheap b hk.2⟩, fun r h => ?_, fun r R' h0 h => ⟨R', (hlive r R' h0 h).1⟩, fun r R R' h0 h b p _ => ?_, fun r R R' p h0 h1 hp => by
   have := (hlive r R' (by rw [h0]; simp) h1).1; rw [h0] at this; cases this; exact hp, fun r R' b p arr e h0 h1 h2 h3 => ?_⟩
  ·unfold jE; rw [if_neg (by have := hk.2; omega), hk.1]; rfl
  ·unfold RT.set; split
   ·simp
   ·split
    ·simp
    ·exact h
  ·obtain ⟨_, h1, h2⟩ := hlive r R' (by rw [h0]; simp) h
   exact hkeep r h1 h2 b p
  ·exact ⟨arr, by rw [hheap b (hlt b _ h2)]; exact h3, rfl⟩
 have hpl : ∀ b, w0.prot b → b < w.heap.size := fun b h => Nat.lt_of_lt_of_le (w0.hp b h) hs.below.size
 have hbel : Kept w0.prot w0 (w.alloc (.cells #[x, v] e)) := hs.below.trans (Kept.of ((Below.refl w.heap.size w).alloc (Nat.le_refl _) _) hpl)
 refine hs.change hfr hbel (fun r R h => ?_) (fun b r p h => ?_) (fun b b' l h h' => ?_) (fun b r p h hd => (hkeep r (fun e => (by rw [e, hnr] at hd; cases hd)) (fun e => (by rw [e, hR] at hd; cases hd)) b p).1 h)
 ·by_cases hrn : r = nr
  ·subst hrn
   rw [RT.set_self] at h; cases h
   refine .inl ⟨w.heap.size, #[x, v], e, by simp [jE], heap_alloc_new w _, by simp, fun i d u hi hu => ?_⟩
   unfold bX
   simp only [Bool.false_eq_true, if_false]
   match i, hi, hu with
   | 0, hi, hu => simp at hi hu; subst hi; subst hu; exact .sh _ _ _ rfl (.lit _)
   | i + 2, hi, hu => simp at hi
   | 1, hi, hu =>
    simp at hi hu; subst hi; subst hu
    rcases hv with ⟨b, arr, e', cap, q, hb, hw, hve, hnc, hcs, hq⟩ | ⟨hve, _, hm0, hnb⟩
    ·have := hq (.inl rfl)
     simp only [Nat.zero_mul] at this; subst this; subst hve
     rcases hs.roots r2 R2 hR with ⟨b', arr', e'', k1, k2, k3, k4⟩ | ⟨_, k2, k3⟩
     ·have hbb := hs.inj b' b _ k1 hb
      subst hbb
      rw [hw] at k2; cases k2
      refine .own _ sz R2.cs b' m cap arr e' hz hm hnc ((hr2 b' []).1 hb) (by rw [hheap b' (hlt b' _ hb)]; exact hw) (by simpa using hcs) k3 (fun i d u hd hu => ?_)
      have hcell := k4 i d u hd hu
      unfold bX at hcell
      rw [hbox] at hcell
      simp only [Bool.false_eq_true, if_false] at hcell
      refine hcell.relab (r, [1] ++ [i]) hfr.ok (fun b q hq => ⟨?_, hheap b (hlt b _ hq)⟩) (fun b q hq => ?_)
      ·simp only [List.cons_append, List.nil_append] at hq ⊢
       exact (hr2 b (i :: q)).1 hq
      ·simp only [List.cons_append, List.nil_append] at hq ⊢
       exact (hr2 b (i :: q)).2 hq
     ·exact absurd hb (k3 b)
    ·subst hve; subst hm0
     have hnil : R2.cs = [] := List.eq_nil_of_length_eq_zero (by rw [← hm]; simp)
     rw [hnil]
     exact .nil _ _ (fun b hb => hnb b ((hr2 b []).2 hb))
  ·have h0 : rt r ≠ none := by
    intro e1
    unfold RT.set at h
    rw [if_neg hrn] at h
    split at h
    ·cases h
    ·rw [e1] at h; cases h
   obtain ⟨k0, k1, k2⟩ := hlive r R h0 h
   exact (hs.roots r R k0).frame hfr (fun b p hp => ⟨(hkeep r k1 k2 b p).1 hp, hheap b (hlt b _ hp)⟩) (fun b p hp => (hkeep r k1 k2 b p).2 hp)
 ·rcases ho b r p h with ⟨e1, e2, e3⟩ | ⟨_, e1, q, _, h1⟩ | ⟨_, h1, h2, h3⟩
  ·exact ⟨fun hp => absurd (hpl b hp) (by omega), by simp [e1], by rw [e2, RT.set_self]; simp⟩
  ·obtain ⟨k1, k2, _⟩ := hs.lab b _ _ h1
   exact ⟨fun hp => (by have := k1 hp; rw [hR] at this; cases this), by simp; omega, by rw [e1, RT.set_self]; simp⟩
  ·obtain ⟨k1, k2, k3⟩ := hs.lab b _ _ h3
   exact ⟨fun hp => (by rw [RT.set_ne _ _ h1, RT.set_ne _ _ h2]; exact k1 hp), by simp; omega, by rw [RT.set_ne _ _ h1, RT.set_ne _ _ h2]; exact k3⟩
 ·obtain ⟨r, p⟩ := l
  rcases ho b r p h with ⟨e1, e2, e3⟩ | ⟨n1, e1, q, e2, h1⟩ | ⟨n1, h1, h2, h3⟩ <;> rcases ho b' r p h' with ⟨e1', e2', e3'⟩ | ⟨n1', e1', q', e2', h1'⟩ | ⟨n1', h1', h2', h3'⟩
  ·rw [e1, e1']
  ·rw [e3] at e2'; cases e2'
  ·exact absurd e2 h1'
  ·rw [e3'] at e2; cases e2
  ·rw [e2] at e2'; cases e2'; exact hs.inj b b' _ h1 h1'
  ·exact absurd e1 h1'
  ·exact absurd e2' h1
  ·exact absurd e1' h1
  ·exact hs.inj b b' _ h3 h3'
theorem Sh.unown {w : World} {ok : Nat → Prop} {o : Bool} {sz : Nat} {cs : List D} {v : Value} (h : Sh w ok (.list o sz cs) v) : Sh w ok (.list false sz cs) v := by
 cases h with
 | nil => exact .nil _ _
 | wild _ _ a => exact .wild _ _ a
 | list _ _ _ b off len cap hl hlc hb hc hr => exact .list _ _ _ b off len cap hl hlc hb hc hr
theorem L4 {R : D → Value → Prop} {T : Tab} {place : Nat → Option (Nat × Nat)} {fs : List (Nat × Nat)} (hpl : ∀ i o t, fs[i]? = some (o, t) → (T.get t).size ≠ 0 → place i = some (o, (T.get t).size)) :
  ∀ (ps : List (Nat × D)) (vs : List (Nat × Value)) (cells res : List D) (cv : Array Value), sA T fs cells ps = some res → cv.size = cells.length →
  (∀ (i : Nat) d v, cells[i]? = some d → cv[i]? = some v → R d v) → ps.length = vs.length →
  (∀ (j : Nat) p v, ps[j]? = some p → vs[j]? = some v → p.1 = v.1 ∧ (∀ cs, p.2.cells = some cs → cs ≠ [] ∧ v.2.cells.size = cs.length ∧ ∀ (i : Nat) x u, cs[i]? = some x → v.2.cells[i]? = some u → R x u)) →
  ∃ rv, Instr.fill place cv vs = some rv ∧ rv.size = res.length ∧ ∀ (i : Nat) d v, res[i]? = some d → rv[i]? = some v → R d v := by
 intro ps
 induction ps with
 | nil =>
  intro vs cells res cv h hl hr hlen _
  have : vs = [] := List.eq_nil_of_length_eq_zero hlen.symm
  subst this
  simp only [sA, Option.some.injEq] at h; subst h
  exact ⟨cv, rfl, hl, hr⟩
 | cons p ps ih =>
  intro vs cells res cv h hl hr hlen hp
  match vs, hlen with
  | v :: vs, hlen =>
   obtain ⟨i, d⟩ := p
   obtain ⟨i', x⟩ := v
   obtain ⟨hi, hcs⟩ := hp 0 _ _ rfl rfl
   simp only at hi hcs; subst hi
   simp only [sA] at h
   split at h
   ·rename_i o t cs hf hc
    split at h
    ·rename_i hb
     simp only [Bool.and_eq_true, beq_iff_eq, decide_eq_true_eq] at hb
     obtain ⟨hne, hsz, hrel⟩ := hcs cs hc
     have hpos : cs.length ≠ 0 := fun e => hne (List.eq_nil_of_length_eq_zero e)
     have hplace := hpl i o t hf (by rw [← hb.1]; exact hpos)
     have hset : ∀ (ds : List D) (us : List Value) (off : Nat) (cells : List D) (cv : Array Value), us.length = ds.length → cv.size = cells.length →
       (∀ (i : Nat) d v, cells[i]? = some d → cv[i]? = some v → R d v) → (∀ (i : Nat) x u, ds[i]? = some x → us[i]? = some u → R x u) → ∀ st,
       (((us.zipIdx st).foldl (fun cs (c, j) => cs.setIfInBounds (o + j) c) cv).size = (setMany cells (o + st) ds).length ∧
       ∀ (i : Nat) d v, (setMany cells (o + st) ds)[i]? = some d → ((us.zipIdx st).foldl (fun cs (c, j) => cs.setIfInBounds (o + j) c) cv)[i]? = some v → R d v) := by
      intro ds
      induction ds with
      | nil =>
       intro us off cells cv hl1 hl2 h1 h2 st
       have : us = [] := List.eq_nil_of_length_eq_zero hl1
       subst this
       exact ⟨hl2, h1⟩
      | cons d ds ihd =>
       intro us off cells cv hl1 hl2 h1 h2 st
       match us, hl1 with
       | u :: us, hl1 =>
        simp only [List.zipIdx_cons, List.foldl_cons, setMany]
        refine ihd us off (cells.set (o + st) d) (cv.setIfInBounds (o + st) u) (by simpa using hl1) (by simpa using hl2) (fun i x y hx hy => ?_) (fun i x y hx hy => h2 (i + 1) x y (by simpa using hx) (by simpa using hy)) (st + 1)
        by_cases hio : i = o + st
        ·subst hio
         have hlt : o + st < cells.length := by
          rcases Nat.lt_or_ge (o + st) cells.length with h | h
          ·exact h
          ·rw [List.getElem?_eq_none (by simpa using h)] at hx; cases hx
         rw [List.getElem?_set_self hlt] at hx
         rw [Array.getElem?_setIfInBounds_self_of_lt (by omega)] at hy
         cases hx; cases hy
         exact h2 0 d u rfl rfl
        ·rw [List.getElem?_set_ne (Ne.symm hio)] at hx
         rw [Array.getElem?_setIfInBounds_ne (Ne.symm hio)] at hy
         exact h1 i x y hx hy
     obtain ⟨q1, q2⟩ := hset cs x.cells.toList 0 cells cv (by simpa using hsz) hl hr (fun i x u hx hu => hrel i x u hx (by simpa using hu)) 0
     obtain ⟨rv, hfill, hrl, hrr⟩ := ih vs _ res _ h (by simpa using q1) (fun i d v hd hv => q2 i d v (by simpa using hd) hv) (by simpa using hlen)
      (fun j p v h1 h2 => hp (j + 1) p v (by simpa using h1) (by simpa using h2))
     refine ⟨rv, ?_, hrl, hrr⟩
     simp only [Instr.fill, hplace]
     rw [if_neg (by simp [hsz, hb.1]; omega)]
     rw [← hfill]
     congr 1
     rw [← Array.foldl_toList]
     simp
    ·cases h
   ·cases h
theorem W2 (off : Nat) : ∀ (l : List (Value × Nat)) (cv : Array Value), (l.foldl (fun cs (c, j) => cs.setIfInBounds (off + j) c) cv).size = cv.size
 | [], _ => rfl
 | x :: xs, cv => by rw [List.foldl_cons, W2 off xs]; simp
theorem Ans {place : Nat → Option (Nat × Nat)} : ∀ (vs : List (Nat × Value)) (cv rv : Array Value), Instr.fill place cv vs = some rv → rv.size = cv.size := by
 intro vs
 induction vs with
 | nil => intro cv rv h; simp only [Instr.fill, Option.some.injEq] at h; rw [h]
 | cons v vs ih =>
  intro cv rv h
  obtain ⟨i, v⟩ := v
  simp only [Instr.fill] at h
  split at h
  ·cases h
  ·split at h
   ·cases h
   ·rw [ih _ _ h]
    rw [← Array.foldl_toList]
    exact W2 _ _ cv
section
variable {P : Program} {T : Tab} {w0 : Base} {w : World} {env : List D} {rt : RT} {own : Nat → Option Lab} {a : Act} {n : Nat} {o : Oper} {K : Res → Prop} {Kc : Act → World → Prop} {Q : Exit → Act → World → Prop}
theorem D.cells_ne {d : D} {cs : List D} (h : d.cells = some cs) (hd : ∀ ds, d = .agg ds → ds ≠ []) : cs ≠ [] := by
 unfold D.cells at h
 split at h
 ·split at h
  ·simp only [Option.some.injEq] at h; subst h; exact hd _ rfl
  ·cases h
 ·cases h
 ·cases h
 ·split at h
  ·simp only [Option.some.injEq] at h; subst h; simp
  ·cases h
theorem Acu {parts : List (Nat × D)} (h : F2 parts = true) : ∀ p ∈ parts, ∀ ds, p.2 = .agg ds → ds ≠ [] := by
 intro p hp ds hd e
 have := List.all_eq_true.1 h p hp
 rw [hd, e] at this; simp at this
theorem F3 (hs : Sim w0 (fun i => env.getD i .undef) rt (fun i => a.tmps.getD i Go.undef) w own) (parts : Array (Nat × Operand)) (j : Nat) (p : Nat × D) (v : Nat × Value)
  (h1 : (parts.toList.map fun (i, x) => (i, aM env x))[j]? = some p) (h2 : ((parts.map fun (i, x) => (i, a.eval x)).toList)[j]? = some v) : p.1 = v.1 ∧ Mt w (okb w own) own rt p.2 v.2 := by
 simp only [List.getElem?_map, Option.map_eq_some_iff, Array.getElem?_toList] at h1
 obtain ⟨x, hx, rfl⟩ := h1
 simp only [Array.getElem?_toList, Array.getElem?_map, hx, Option.map_some, Option.some.injEq] at h2
 subst h2
 exact ⟨rfl, bZ hs x.2⟩
theorem Ac9 (P : Program) (g : Field → Nat × Nat) : ∀ (fs : List Field), (∀ f ∈ fs, ((P.info? f.type).map fun i => (f.offset, i.size)) = some (g f)) →
  fs.mapM (fun f => (P.info? f.type).map fun i => (f.offset, i.size)) = some (fs.map g)
 | [], _ => rfl
 | f :: fs, h => by
  rw [List.mapM_cons, h f (by simp), Ac9 P g fs (fun x hx => h x (by simp [hx]))]
  rfl
theorem Ash (hT : TabOk P T) (hs : Sim w0 (fun i => env.getD i .undef) rt (fun i => a.tmps.getD i Go.undef) w own) (hg : cZ w0 env rt n a o.dst K Kc) (t : TypeId) (parts : Array (Nat × Operand))
  (ho : o.op = .build t parts) (h : uR T t (parts.toList.map fun (i, x) => (i, aM env x)) K) : o.wp P a w Kc Q := by
 unfold uR at h
 have h1 := aO h; clear h; obtain ⟨hct, h⟩ := h1
 obtain ⟨it, d, hi, hu, hsz, _, hz, htd⟩ := hT.info (nz hct)
 split at h
 ·rename_i fs hfs
  rw [hfs] at htd
  obtain ⟨fa, rfl, rfl⟩ := Ty.ofDesc_struct htd.symm
  split at h
  ·rename_i cs hcs
   have h1 := aO h; clear h; obtain ⟨hall, h⟩ := h1
   simp only [Bool.and_eq_true] at hall
   have hall1 := List.all_eq_true.1 hall.1
   have hall2 := Acu hall.2
   have hsize : ∀ f ∈ fa.toList, (T.get f.type).size ≠ 0 := fun f hf => nz (hall1 (f.offset, f.type) (List.mem_map.2 ⟨f, hf, rfl⟩))
   have hzm := rP (w := w) (ok := okb w own) (T.get t).zero
   let place : Nat → Option (Nat × Nat) := fun i => (fa.toList.map fun f => (f.offset, (T.get f.type).size)).toArray[i]?
   obtain ⟨rv, hfill, hrl, hrr⟩ := L4 (R := fun d v => Mt w (okb w own) own rt d v) (T := T) (place := place) (fs := fa.toList.map fun f => (f.offset, f.type))
    (fun i off ty hf _ => by
     simp only [List.getElem?_map, Option.map_eq_some_iff, Array.getElem?_toList] at hf
     obtain ⟨f, hf, he⟩ := hf
     cases he
     simp [place, hf])
    _ ((parts.map fun (i, x) => (i, a.eval x)).toList) _ cs (T.get t).zero.cells hcs hzm.1 (fun i d v h1 h2 => .sh _ _ (hzm.2 i d v h1 h2).1) (by simp)
    (fun j p v h1 h2 => by
     obtain ⟨e1, e2⟩ := F3 hs parts j p v h1 h2
     refine ⟨e1, fun cs hc => ?_⟩
     obtain ⟨k1, k2, _⟩ := e2.cells hc
     exact ⟨D.cells_ne hc (hall2 p (List.mem_of_getElem? h1)), k1, k2⟩)
   refine cG hs hg h (v := .agg rv) (.agg _ _ hrl hrr) ?_
   have hm := Ac9 P (fun f => (f.offset, (T.get f.type).size)) fa.toList (fun f hf => by
    obtain ⟨i2, d2, h2, _, h3, _⟩ := hT.info (hsize f hf)
    simp [h2, h3])
   have hb : P.built t (parts.map fun (i, x) => (i, a.eval x)).toList = some rv := by
    unfold Program.built
    simp only [hi, hu, hz, hm]
    rw [← hfill]
   have := run_build (P := P) w t _ rv hb
   simp [execOp, ho, this]
  ·exact h.elim
 ·exact h.elim
theorem Tr.toSh0 {w : World} {ok ok' : Nat → Prop} {own : Nat → Option Lab} {l : Lab} {d : D} {v : Value} (h : Tr w ok own l d v) (hok : ∀ b, ok b → ok' b) (hown : ∀ b q, own b = some (l.1, l.2 ++ q) → ok' b) : Sh w ok' d v := by
 induction h with
 | sh l d v ho h => exact h.frame (fun b hb => ⟨hok b hb, rfl⟩)
 | nil l sz hn => exact .nil _ _
 | own l sz cs b len cap arr e hz hl hlc hb hw hc hs hr ih =>
  refine .list _ _ _ b 0 len cap hl hlc (hown b [] (by simpa using hb)) (fun i hi => ?_) (fun i d v hd hv => ?_)
  ·rw [cell_of_heap hw, Array.getElem?_eq_getElem (by omega)]; rfl
  ·rw [cell_of_heap hw, Nat.zero_add] at hv
   exact ih i d v hd hv (fun b q hq => hown b (i :: q) (by simpa using hq))
theorem Sim.listSh0 {w0 : Base} {env : Nat → D} {tm : Nat → Value} {w : World} {own : Nat → Option Lab} {rt : RT} {ok : Nat → Prop} (hs : Sim w0 env rt tm w own) (hok : ∀ b, okb w own b → ok b) {r s0 sz n : Nat} (hl : ∀ b p, own b = some (r, p) → ok b) {cs : List D} {v : Value} (hR : rt r = some (some ⟨false, s0, cs⟩)) (hm : Mt w (okb w own) own rt (.ref r [] sz 0 n) v)
  (hn : n * sz = cs.length) (o : Bool) : Sh w ok (.list o sz cs) v := by
 rcases hm.ref_inv.2 _ hR with ⟨b, arr, e, cap, off, hb, hw, hv, hnc, hcap, ho⟩ | ⟨hv, _, hn0, hno⟩
 ·have ho := ho (.inl rfl)
  rw [Nat.zero_mul] at ho
  subst ho
  rcases hs.roots r _ hR with ⟨b2, arr2, e2, k1, k2, k3, k4⟩ | ⟨_, _, k3⟩
  ·have hbb := hs.inj b b2 _ hb k1
   subst hbb
   rw [hw] at k2
   cases k2
   rw [hv]
   refine .list _ _ _ b 0 n cap hn hnc (hl b [] hb) (fun j hj => ?_) (fun j d u hd hu => ?_)
   ·rw [cell_of_heap hw, Nat.zero_add, Array.getElem?_eq_getElem (by simp only at k3; omega)]; rfl
   ·rw [cell_of_heap hw, Nat.zero_add] at hu
    have h4 := k4 j d u hd hu
    unfold bX at h4
    rw [if_neg (by simp)] at h4
    exact h4.toSh0 (ok' := ok) hok (fun b q hq => hl b _ hq)
  ·exact absurd hb (k3 b)
 ·have : cs = [] := List.eq_nil_of_length_eq_zero (by rw [← hn, hn0, Nat.zero_mul])
  subst this
  rw [hv]
  exact .nil _ _
theorem Ajv (hT : TabOk P T) (hs : Sim w0 (fun i => env.getD i .undef) rt (fun i => a.tmps.getD i Go.undef) w own) (hn : rt n = none) (hg : cZ w0 env rt n a o.dst K Kc) (t : TypeId) (len : Nat) (parts : Array (Nat × Operand))
  (ho : o.op = .buildSlice t len parts) (h : lK T rt n t len (parts.toList.map fun (i, x) => (i, aM env x)) K) : o.wp P a w Kc Q := by
 unfold lK at h
 have h1 := aO h; clear h; obtain ⟨hct, h⟩ := h1
 obtain ⟨it, d, hi, hu, _, _, _, htd⟩ := hT.info (nz hct)
 split at h
 ·rename_i e hty
  have h1 := aO h; clear h; obtain ⟨hes, h⟩ := h1
  simp only [Bool.and_eq_true, Nat.ble_eq] at hes
  rw [hty] at htd
  have := Ty.ofDesc_slice htd.symm; subst this
  obtain ⟨ie, de, hie, _, hsz, hby, hze, _⟩ := hT.info (nz hes.1)
  have run : ∀ cells, Instr.fill (fun i => some (i * ie.size, ie.size)) (madeCells (T.get e).zero.cells (len * ie.size)) ((parts.map fun (i, x) => (i, a.eval x)).toList) = some cells →
    (execOp a.eval o).run P w = .ok (.value (.slice (some ⟨w.heap.size, 0, none⟩) len len)) (w.alloc (.cells cells e)) := fun cells hf => by
   have hle : ¬ (16777216 < len * ie.size) := by rw [hsz]; omega
   simp only [Array.toList_map] at hf
   by_cases hz0 : len * ie.size = 0
   ·simp only [hz0, madeCells, Array.range_zero', Array.map_empty] at hf
    simp [execOp, ho, Instr.buildSlice, run_underlying hu, sizeOf, typeInfo, hie, hz0, newRow, Array.range_zero', hf]
   ·simp only [madeCells] at hf
    simp [execOp, ho, Instr.buildSlice, run_underlying hu, sizeOf, typeInfo, zeroValue, hze, hie, hz0, hle, newRow, hf]
  split at h
  ·rename_i r p sz off m hpp
   have hq := Aqm hpp; clear hpp; obtain ⟨rfl, hpp⟩ := hq
   have h1 := aO h; clear h; obtain ⟨hc2, h⟩ := h1
   simp only [Bool.and_eq_true, Nat.beq_eq] at hc2
   obtain ⟨l⟩ := parts
   obtain ⟨⟨i0, x⟩, rfl, hp0⟩ := List.map_eq_singleton_iff.1 hpp
   ·simp only [Prod.mk.injEq] at hp0
    obtain ⟨hi0, hxe⟩ := hp0
    subst hi0
    have hx := bZ hs x
    rw [hxe] at hx
    split at h
    ·rename_i R hR
     have h1 := aO h; clear h; obtain ⟨hbox, h⟩ := h1
     obtain ⟨hm, h⟩ := h
     have hro := hx.ref_inv.2 R hR
     have h1v := hx.one rfl
     have hcl := oneCell_cells h1v
     obtain ⟨u, hmu⟩ : ∃ u, madeCells (T.get e).zero.cells (1 * ie.size) = #[u] := Array.size_eq_one_iff.1 (by rw [size_madeCells, hsz, hc2.1])
     have hr := run #[a.eval x] (by
      rw [hmu, hsz, hc2.1]
      have e1 : ((#[(0, x)] : Array (Nat × Operand)).map fun (i, x) => (i, a.eval x)).toList = [(0, a.eval x)] := by simp
      rw [e1]
      simp only [Instr.fill, hcl]
      rfl)
     refine gZ hr (hg _ _ _ (jF own w.heap.size r n) h ?_ ?_)
     ·simp only [cS, cW, oI]
      exact hs.adopt hR (by simpa using hbox) hn (nz hc2.2) hm hro
     ·simp only [cS, cW, oI]
      exact .ref _ _ _ _ _ _ (by simp) rfl (fun _ _ => ⟨.inl rfl, .inl ⟨w.heap.size, #[a.eval x], e, 1, 0, by simp [jF], heap_alloc_new w _, rfl, Nat.le_refl _, rfl, by simp⟩⟩)
    ·exact h.elim
  ·split at h
   ·rename_i v r p sz off m hpp
    have hq := Ara hpp; clear hpp; obtain ⟨rfl, hpp⟩ := hq
    have h1 := aO h; clear h; obtain ⟨hc2, h⟩ := h1
    simp only [Bool.and_eq_true, Nat.beq_eq] at hc2
    obtain ⟨⟨⟨hc2, hc3⟩, hc4⟩, hc5⟩ := hc2
    split at h
    ·rename_i R hR
     have h1 := aO h; clear h; obtain ⟨hbox, h⟩ := h1
     obtain ⟨hm, h⟩ := h
     have hzm := rP (w := w) (ok := okb w own) (T.get e).zero
     have hzs : (T.get e).zero.cells.size = (T.get e).size := by rw [hzm.1, hc2]; exact hc5
     obtain ⟨c0, c1, hcc⟩ : ∃ c0 c1, gO 1 (zeroCells (T.get e).zero) = [c0, c1] := by
      have hl : (gO 1 (zeroCells (T.get e).zero)).length = 2 := by rw [oP]; omega
      match hh : gO 1 (zeroCells (T.get e).zero), hl with
      | [c0, c1], _ => exact ⟨c0, c1, rfl⟩
     obtain ⟨rv, hfill, hrl, hrr⟩ := L4 (R := fun d v => Mt w (okb w own) own rt d v) (T := T) (place := fun i => some (i * ie.size, ie.size)) (fs := (List.range 1).map fun i => (i * (T.get e).size, e))
      (fun i off ty hf _ => by
       simp only [List.getElem?_map, Option.map_eq_some_iff] at hf
       obtain ⟨j, hj, he⟩ := hf
       cases he
       have : j = i := by
        obtain ⟨_, h1⟩ := List.getElem?_eq_some_iff.1 hj
        rw [List.getElem_range] at h1
        exact h1.symm
       rw [this, hsz])
      [(0, .agg [.lit v, .ref r [] sz 0 m])] ((parts.map fun (i, x) => (i, a.eval x)).toList) (gO 1 (zeroCells (T.get e).zero)) [.lit v, .ref r [] sz 0 m] (madeCells (T.get e).zero.cells (1 * ie.size))
      (by
       have hone : D.cells (.agg [.lit v, .ref r [] sz 0 m]) = some [.lit v, .ref r [] sz 0 m] := by
        simp only [D.cells, List.all_cons, List.all_nil, hc4, D.one, Bool.and_true, if_true]
        first | rfl | (rw [if_pos]; simp [D.one] at hc4 ⊢; exact hc4)
       rw [hcc]
       simp only [sA, List.range_one, List.map_cons, List.map_nil, List.getElem?_cons_zero, hone]
       rw [if_pos (by simp [hc2])]
       simp [setMany])
      (by rw [size_madeCells, oP, hc5, hsz, hc2])
      (fun i d v h1 h2 => by
       have hi : i < 1 * (T.get e).size := by
        have := (List.getElem?_eq_some_iff.1 h1).1
        simp only [oP] at this; rwa [hc5, ← hc2] at this
       have hp : 0 < (T.get e).zero.cells.size := by rw [hzs]; have := nz hes.1; omega
       rw [O9 _ _ _ (by rw [hsz]; omega) hp] at h2
       rw [wB, getElem?_replicate_flatten _ _ _ (by rw [hc5, ← hc2]; exact hi)] at h1
       rw [hzm.1] at h2
       exact .sh _ _ (hzm.2 _ d v h1 h2).1)
      (by have := congrArg List.length hpp; simpa using this.symm)
      (fun j p u h1 h2 => by
       rw [← hpp] at h1
       obtain ⟨e1, e2⟩ := F3 hs parts j p u h1 h2
       refine ⟨e1, fun cs hc => ?_⟩
       obtain ⟨k1, k2, _⟩ := e2.cells hc
       rw [hpp] at h1
       have hp2 : p.2 = .agg [.lit v, .ref r [] sz 0 m] := by
        match j, h1 with
        | 0, h1 => simp at h1; rw [← h1]
       exact ⟨D.cells_ne hc (fun ds hd => by rw [hp2] at hd; cases hd; simp), k1, k2⟩)
     have hrl2 : rv.size = 2 := hrl
     obtain ⟨x0, x1, rfl⟩ : ∃ x0 x1, rv = #[x0, x1] := by
      match hh : rv.toList, (by rw [Array.length_toList]; exact hrl2 : rv.toList.length = 2) with
      | [x0, x1], _ => exact ⟨x0, x1, by rw [← Array.toArray_toList (xs := rv), hh]⟩
     have h0 := hrr 0 (.lit v) x0 rfl rfl
     have h1 := hrr 1 (.ref r [] sz 0 m) x1 rfl rfl
     have e0 := h0.lit_inv
     subst e0
     have hro := h1.ref_inv.2 R hR
     refine gZ (run _ hfill) (hg _ _ _ (jE own w.heap.size r n) h ?_ ?_)
     ·simp only [cS, cW, oI]
      exact hs.adopt2 hR (by simpa using hbox) hn (nz hc3) hm hro
     ·simp only [cS, cW, oI]
      exact .ref _ _ _ _ _ _ (by simp) rfl (fun _ _ => ⟨.inl rfl, .inl ⟨w.heap.size, _, e, 1, 0, by simp [jE], heap_alloc_new w _, rfl, Nat.le_refl _, rfl, by simp⟩⟩)
    ·exact h.elim
   ·split at h
    ·rename_i r1 sz1 m1 r2 sz2 m2 hpp
     have hq := Apg hpp; clear hpp; obtain ⟨rfl, hpp⟩ := hq
     have h1 := aO h; clear h; obtain ⟨hc2, h⟩ := h1
     simp only [Bool.and_eq_true, Nat.beq_eq] at hc2
     have hne12 : r1 ≠ r2 := fun e0 => by
      have h9 := hc2.2
      rw [e0, show Nat.beq r2 r2 = true from Nat.beq_refl r2] at h9
      cases h9
     split at h
     ·rename_i R1 R2 hR1 hR2
      have h1 := aO h; clear h; obtain ⟨hbox, h⟩ := h1
      simp only [Bool.and_eq_true] at hbox
      obtain ⟨hm1, hm2, h⟩ := h
      obtain ⟨bx1, s1, cs1⟩ := R1
      obtain ⟨bx2, s2, cs2⟩ := R2
      obtain rfl : bx1 = false := by simpa using hbox.1
      obtain rfl : bx2 = false := by simpa using hbox.2
      obtain ⟨l⟩ := parts
      obtain ⟨x, y, rfl, hxe, hye⟩ : ∃ x y, l = [(0, x), (1, y)] ∧ aM env x = .ref r1 [] sz1 0 m1 ∧ aM env y = .ref r2 [] sz2 0 m2 := by
       have hlen : l.length = 2 := by have := congrArg List.length hpp; simpa using this
       match l, hlen with
       | [(i0, x), (i1, y)], _ =>
        simp only [List.map_cons, List.map_nil, List.cons.injEq, Prod.mk.injEq, and_true] at hpp
        obtain ⟨⟨rfl, hx⟩, rfl, hy⟩ := hpp
        exact ⟨x, y, rfl, hx, hy⟩
      have hx := bZ hs x
      rw [hxe] at hx
      have hy := bZ hs y
      rw [hye] at hy
      have hcx := oneCell_cells (hx.one rfl)
      have hcy := oneCell_cells (hy.one rfl)
      obtain ⟨u0, u1, hmu⟩ : ∃ u0 u1, madeCells (T.get e).zero.cells (2 * ie.size) = #[u0, u1] := by
       have hl2 : (madeCells (T.get e).zero.cells (2 * ie.size)).toList.length = 2 := by rw [Array.length_toList, size_madeCells, hsz, hc2.1]
       match hh : (madeCells (T.get e).zero.cells (2 * ie.size)).toList, hl2 with
       | [a0, a1], _ => exact ⟨a0, a1, by rw [← Array.toArray_toList (xs := madeCells (T.get e).zero.cells (2 * ie.size)), hh]⟩
      have hr := run #[a.eval x, a.eval y] (by
       rw [hmu, hsz, hc2.1]
       have e1 : ((#[(0, x), (1, y)] : Array (Nat × Operand)).map fun (i, x) => (i, a.eval x)).toList = [(0, a.eval x), (1, a.eval y)] := by simp
       rw [e1]
       simp only [Instr.fill, hcx, hcy]
       rfl)
      have hs1 := hs.killE r1 (by rw [hR1]; simp)
      have hR2' : (rt.set r1 none) r2 = some (some ⟨false, s2, cs2⟩) := by unfold RT.set; rw [if_neg (Ne.symm hne12)]; exact hR2
      have hs2 := hs1.killE r2 (by rw [hR2']; simp)
      have hn2 : ((rt.set r1 none).set r2 none) n = none := by
       unfold RT.set
       rw [if_neg (fun e0 => by rw [← e0, hn] at hR2; cases hR2), if_neg (fun e0 => by rw [← e0, hn] at hR1; cases hR1)]
       exact hn
      have okk : ∀ b, okb w own b → okb w (dC (dC own r1) r2) b := fun b hb => ⟨by unfold dC; rw [hb.1], hb.2⟩
      have sh1 : Sh w (okb w (dC (dC own r1) r2)) (.list false sz1 cs1) (a.eval x) := hs.listSh0 okk (fun b p hb => ⟨by unfold dC; rw [hb]; simp, (hs.lab b r1 p hb).2.1⟩) hR1 hx hm1 false
      have sh2 : Sh w (okb w (dC (dC own r1) r2)) (.list false sz2 cs2) (a.eval y) := hs.listSh0 okk (fun b p hb => ⟨by unfold dC; rw [hb]; simp [Ne.symm hne12], (hs.lab b r2 p hb).2.1⟩) hR2 hy hm2 false
      refine gZ hr (hg _ _ _ (fH (dC (dC own r1) r2) w.heap.size (n, [])) h ?_ ?_)
      ·simp only [cS, cW, oI]
       refine hs2.newRoot n hn2 _ e ⟨false, 1, [.list false sz1 cs1, .list false sz2 cs2]⟩ (by simp) (fun i d v h1 h2 => ⟨fun h => (by cases h), fun _ => ?_⟩)
       match i, h1, h2 with
       | 0, h1, h2 => simp at h1 h2; subst h1; subst h2; exact ⟨rfl, sh1⟩
       | 1, h1, h2 => simp at h1 h2; subst h1; subst h2; exact ⟨rfl, sh2⟩
       | i + 2, h1, h2 => simp at h1
      ·simp only [cS, cW, oI]
       exact Sim.newRef n _ e _ _ _ _ (Nat.le_refl _) (by simp)
     ·exact h.elim
    ·split at h
     ·rename_i cs hcs
      have h1 := aO h; clear h; obtain ⟨hall, h⟩ := h1
      rw [lQ, qS] at h
      simp only [Bool.and_eq_true, Nat.beq_eq] at hall
      have hpl := List.all_eq_true.1 hall.1.1
      have hne := Acu hall.2
      have hzm := rP (w := w) (ok := okb w own) (T.get e).zero
      have hzs : (T.get e).zero.cells.size = (T.get e).size := by rw [hzm.1]; exact hall.1.2
      obtain ⟨rv, hfill, hrl, hrr⟩ := L4 (R := fun d v => Mt w (okb w own) own rt d v) (T := T) (place := fun i => some (i * ie.size, ie.size)) (fs := (List.range len).map fun i => (i * (T.get e).size, e))
       (fun i off ty hf _ => by
        simp only [List.getElem?_map, Option.map_eq_some_iff] at hf
        obtain ⟨j, hj, he⟩ := hf
        cases he
        have : j = i := by
         have h1 := List.getElem?_eq_some_iff.1 hj
         simpa using h1.2.symm
        rw [this, hsz])
       _ ((parts.map fun (i, x) => (i, a.eval x)).toList) _ cs (madeCells (T.get e).zero.cells (len * ie.size)) hcs (by rw [size_madeCells, oP, hall.1.2, hsz])
       (fun i d v h1 h2 => by
        have hi : i < len * (T.get e).size := by
         have := (List.getElem?_eq_some_iff.1 h1).1
         simp only [oP] at this; rwa [hall.1.2] at this
        have hp : 0 < (T.get e).zero.cells.size := by rw [hzs]; have := nz hes.1; omega
        rw [O9 _ _ _ (by rw [hsz]; omega) hp] at h2
        rw [wB, getElem?_replicate_flatten _ _ _ (by rw [hall.1.2]; exact hi)] at h1
        rw [hzm.1] at h2
        exact .sh _ _ (hzm.2 _ d v h1 h2).1) (by simp)
       (fun j p v h1 h2 => by
        obtain ⟨e1, e2⟩ := F3 hs parts j p v h1 h2
        refine ⟨e1, fun cs hc => ?_⟩
        obtain ⟨k1, k2, _⟩ := e2.cells hc
        exact ⟨D.cells_ne hc (hne p (List.mem_of_getElem? h1)), k1, k2⟩)
      have hcl : cs.length = len * (T.get e).size := by
       rw [← hrl, Ans _ _ _ hfill, size_madeCells, hsz]
      refine gZ (run rv hfill) (hg _ _ _ (fH own w.heap.size (n, [])) h ?_ ?_)
      ·rw [pB]
       refine hs.newRoot n hn _ e ⟨false, (T.get e).size, cs.map D.unown⟩ (by rw [hrl, List.length_map]; exact Nat.le_refl _) (fun i d v h1 h2 => ⟨fun h => (by cases h), fun _ => ?_⟩)
       simp only [List.getElem?_map, Option.map_eq_some_iff] at h1
       obtain ⟨d, h1, rfl⟩ := h1
       have hm := hrr i d v h1 h2
       have hp := hpl d (List.mem_of_getElem? h1)
       cases d <;> simp [D.plainOr, D.plainLit] at hp
       ·rw [hm.kb_inv]; exact ⟨rfl, .kb _⟩
       ·rw [hm.lit_inv]; exact ⟨rfl, .lit _⟩
       ·exact ⟨rfl, hm.list_inv.unown⟩
      ·rw [pB]
       exact Sim.newRef n _ e _ _ _ _ (Nat.le_refl _) (by rw [hrl, hcl])
     ·exact h.elim
 ·exact h.elim
end
end Go.Vm
namespace Go.Vm
open Go Go.RowKit
section
variable {P : Program} {T : Tab} {w0 : Base} {w : World} {env : List D} {rt : RT} {own : Nat → Option Lab} {a : Act} {n : Nat} {o : Oper} {K : Res → Prop} {Kc : Act → World → Prop} {Q : Exit → Act → World → Prop}
structure SrcOk (w : World) (own : Nat → Option Lab) (rt : RT) (sz : Nat) (r0 : Option Nat) (x : Value) (m : Nat) (news : List D) (c : Option Nat) (nv : List Value) : Prop where
 len : nv.length = news.length
 rel : ∀ (j : Nat) d v, news[j]? = some d → nv[j]? = some v → match c with
  | none => d.notOwn = true ∧ Sh w (okb w own) d v
  | some r2 => Tr w (okb w own) own (r2, [j]) d v
 one : ∀ u ∈ nv, u.oneCell' = true
 val : (x = .slice none 0 0 ∧ m = 0 ∧ nv = []) ∨ ∃ (ad : Addr) (cap : Nat), x = .slice (some ad) m cap ∧ nv.length = m * sz ∧ ∀ j u, nv[j]? = some u → w.cell? (ad.add j) = some u
 cons : ∀ r2, c = some r2 → r0 ≠ some r2 ∧ ∃ R, rt r2 = some (some R)
theorem sD {d : D} (h : d.cellOk = true) : d.notOwn = true ∧ d.one = true := by simpa [D.cellOk] using h
theorem zZ (hs : Sim w0 (fun i => env.getD i .undef) rt (fun i => a.tmps.getD i Go.undef) w own) {e : Nat} {r0 : Option Nat} {x : Operand} {K : Nat → List D → Option Nat → List Nat → Prop} {sz0 : Nat}
  (hez : (T.get e).size = sz0) (h : jQ T rt e r0 (aM env x) K) : ∃ m news c rd nv, K m news c rd ∧ SrcOk w own rt sz0 r0 (a.eval x) m news c nv := by
 have hx := bZ hs x
 unfold jQ at h
 split at h
 ·rename_i hxe
  rw [hxe] at hx
  exact ⟨0, [], none, [], [], h, rfl, fun j d v h1 => by simp at h1, by simp, .inl ⟨hx.lit_inv, rfl, rfl⟩, by simp⟩
 ·rename_i ob sz cs hxe
  have h1 := aO h; clear h; obtain ⟨hes, h⟩ := h1
  obtain ⟨hes, hz⟩ := mG hes
  rw [hez] at hes; subst hes
  rw [hxe] at hx
  have hsh := hx.list_inv
  generalize hv : a.eval x = v at hsh
  cases hsh with
  | nil => exact ⟨_, _, _, _, [], h.2, rfl, fun j d v h1 => by simp at h1, by simp, .inl ⟨rfl, by simp [gQ], rfl⟩, by simp⟩
  | wild _ _ ad => exact ⟨_, _, _, _, [], h.2, rfl, fun j d v h1 => by simp at h1, by simp, .inr ⟨ad, 0, by simp [gQ], by simp [gQ], fun j u hj => by simp at hj⟩, by simp⟩
  | list _ _ _ b off len cap hlen hlc hb hc hr =>
   let nv : List Value := (List.range cs.length).map fun j => (w.cell? ⟨b, off + j, none⟩).getD .nilFunc
   have hnv : ∀ j u, nv[j]? = some u → w.cell? ⟨b, off + j, none⟩ = some u ∧ j < cs.length := fun j u hj => by
    simp only [nv, List.getElem?_map, Option.map_eq_some_iff] at hj
    obtain ⟨k, hk, hj⟩ := hj
    have hk2 := List.getElem?_eq_some_iff.1 hk
    obtain ⟨hk3, hk4⟩ := hk2
    simp at hk3 hk4; subst hk4
    obtain ⟨u', hu'⟩ := Option.isSome_iff_exists.1 (hc j hk3)
    rw [hu'] at hj ⊢; simp at hj; exact ⟨by rw [hj], hk3⟩
   refine ⟨_, _, _, _, nv, h.2, by simp [nv], fun j d v h1 h2 => ?_, fun u hu => ?_, .inr ⟨⟨b, off, none⟩, cap, by rw [mS hz hlen], by simp [nv, mS hz hlen, hlen], fun j u hj => by rw [Addr.add_off]; exact (hnv j u hj).1⟩, by simp⟩
   ·exact ⟨(sD (h.1 d (List.mem_of_getElem? h1))).1, hr j d v h1 (hnv j v h2).1⟩
   ·obtain ⟨j, hj⟩ := List.getElem?_of_mem hu
    obtain ⟨k1, k2⟩ := hnv j u hj
    obtain ⟨d, hd⟩ : ∃ d, cs[j]? = some d := ⟨_, List.getElem?_eq_getElem k2⟩
    exact (hr j d u hd k1).one (sD (h.1 d (List.mem_of_getElem? hd))).2
 ·rename_i r p sz off m hxe
  have h1 := aO h; clear h; obtain ⟨hes, h⟩ := h1
  simp only [Bool.and_eq_true] at hes
  obtain ⟨hne, hz⟩ := mG hes.1
  rw [hez] at hne; subst hne
  rw [hxe] at hx
  split at h
  ·rename_i R hR
   have h1 := aO h; clear h; obtain ⟨hbox, h⟩ := h1
   have hro := hx.ref_inv.2 R hR
   split at h
   ·obtain ⟨c, hcb, hle, c', hc', hok, h⟩ := h
    subst hc'
    rcases hro with ⟨b, arr, e', cap, q, hb, hw, hv, hnc, hcs, hq⟩ | ⟨hv, ho, hm, hnb⟩
    ·by_cases hm0 : m = 0
     ·subst hm0
      have hnil : sub c sz0 off 0 = [] := by simp [sub]
      refine ⟨_, _, _, _, [], h, by rw [hnil]; rfl, fun j d v h1 h2 => by simp at h2, by simp, .inr ⟨⟨b, q, none⟩, cap, hv, by simp, fun j u hj => by simp at hj⟩, by simp⟩
     ·have hq' := hq (.inr hm0)
      have hne : c ≠ [] := by
       intro e0; subst e0
       have : 0 < (off + m) * sz0 := Nat.mul_pos (by omega) (by omega)
       simp at hle; omega
      rcases hs.blk hR (by simpa using hbox) hcb with ⟨b', arr', e'', k1, k2, k3, k4⟩ | ⟨hnil, _⟩
      ·have hbb := hs.inj b' b _ k1 hb
       subst hbb
       rw [hw] at k2; cases k2
       rw [Nat.add_mul] at hle
       let nv : List Value := (arr.toList.drop (off * sz0)).take (m * sz0)
       have hsl : (sub c sz0 off m).length = m * sz0 := by simp only [sub, List.length_take, List.length_drop]; omega
       have hnl : nv.length = m * sz0 := by simp only [nv, List.length_take, List.length_drop, Array.length_toList]; omega
       have hnv : ∀ j u, nv[j]? = some u → arr[off * sz0 + j]? = some u := fun j u hj => by
        simp only [nv, List.getElem?_take, List.getElem?_drop, Array.getElem?_toList] at hj
        split at hj
        ·exact hj
        ·cases hj
       have hsub : ∀ j d, (sub c sz0 off m)[j]? = some d → c[off * sz0 + j]? = some d := fun j d hj => by
        simp only [sub, List.getElem?_take, List.getElem?_drop] at hj
        split at hj
        ·exact hj
        ·cases hj
       have hcell : ∀ (j : Nat) d v, (sub c sz0 off m)[j]? = some d → nv[j]? = some v → d.notOwn = true ∧ Sh w (okb w own) d v := fun j d v h1 h2 => by
        have ht := k4 (off * sz0 + j) d v (hsub j d h1) (hnv j v h2)
        have hno := (sD (hok d (List.mem_of_getElem? h1))).1
        cases ht with
        | sh _ _ _ _ h => exact ⟨hno, h⟩
        | nil => simp [D.notOwn] at hno
        | own => simp [D.notOwn] at hno
       refine ⟨_, _, _, _, nv, h, by rw [hnl, hsl], hcell, fun u hu => ?_, .inr ⟨⟨b', q, none⟩, cap, hv, hnl, fun j u hj => ?_⟩, by simp⟩
       ·obtain ⟨j, hj⟩ := List.getElem?_of_mem hu
        have hjl : j < (sub c sz0 off m).length := by rw [hsl, ← hnl]; exact (List.getElem?_eq_some_iff.1 hj).1
        obtain ⟨d, hd⟩ : ∃ d, (sub c sz0 off m)[j]? = some d := ⟨_, List.getElem?_eq_getElem hjl⟩
        exact (hcell j d u hd hj).2.one (sD (hok d (List.mem_of_getElem? hd))).2
       ·rw [Addr.add_off, cell_of_heap hw, hq']; exact hnv j u hj
      ·exact absurd hnil hne
    ·subst hm; subst ho
     have hnil : sub c sz0 0 0 = [] := by simp [sub]
     exact ⟨_, _, _, _, [], h, by rw [hnil]; rfl, fun j d v h1 h2 => by simp at h2, by simp, .inl ⟨hv, rfl, rfl⟩, by simp⟩
   ·split at h
    ·obtain ⟨hm, hone, h⟩ := h
     have hcons : ∀ r2, some r = some r2 → r0 ≠ some r2 ∧ ∃ R, rt r2 = some (some R) := fun r2 e2 => by
      cases e2
      refine ⟨fun e3 => ?_, R, hR⟩
      have := hes.2
      rw [e3] at this; simp at this
     rcases hro with ⟨b, arr, e', cap, q, hb, hw, hv, hnc, hcs, hq⟩ | ⟨hv, ho, hm0, hnb⟩
     ·have hq' := hq (.inl rfl)
      simp only [Nat.zero_mul] at hq'; subst hq'
      rcases hs.roots r R hR with ⟨b', arr', e'', k1, k2, k3, k4⟩ | ⟨_, _, k3⟩
      ·have hbb := hs.inj b' b _ k1 hb
       subst hbb
       rw [hw] at k2; cases k2
       let nv : List Value := arr.toList.take R.cs.length
       have hnl : nv.length = R.cs.length := by simp only [nv, List.length_take, Array.length_toList]; omega
       have hnv : ∀ (j : Nat) (u : Value), nv[j]? = some u → arr[j]? = some u := fun j u hj => by
        have hj' : (arr.toList.take R.cs.length)[j]? = some u := hj
        rw [List.getElem?_take] at hj'
        split at hj'
        ·simpa using hj'
        ·cases hj'
       have hcell : ∀ (j : Nat) d v, R.cs[j]? = some d → nv[j]? = some v → Tr w (okb w own) own (r, [j]) d v := fun j d v h1 h2 => by
        have := k4 j d v h1 (hnv j v h2)
        unfold bX at this
        simp only [Bool.not_eq_true'] at hbox
        rw [hbox] at this; simpa using this
       refine ⟨_, _, _, _, nv, h, hnl, hcell, fun u hu => ?_, .inr ⟨⟨b', 0, none⟩, cap, hv, by rw [hnl, hm], fun j u hj => ?_⟩, hcons⟩
       ·obtain ⟨j, hj⟩ := List.getElem?_of_mem hu
        have hjl : j < R.cs.length := by rw [← hnl]; exact (List.getElem?_eq_some_iff.1 hj).1
        obtain ⟨d, hd⟩ : ∃ d, R.cs[j]? = some d := ⟨_, List.getElem?_eq_getElem hjl⟩
        exact (hcell j d u hd hj).one (hone d (List.mem_of_getElem? hd))
       ·rw [Addr.add_off, cell_of_heap hw, Nat.zero_add]; exact hnv j u hj
      ·exact absurd hb (k3 b)
     ·subst hm0
      have hnil : R.cs = [] := List.eq_nil_of_length_eq_zero (by rw [← hm]; simp)
      exact ⟨_, _, _, _, [], h, by simp [hnil], fun j d v h1 h2 => by simp at h2, by simp, .inl ⟨hv, rfl, rfl⟩, hcons⟩
    ·exact h.elim
  ·exact h.elim
 ·exact h.elim
theorem Arw (t ty e : TypeId) (i : TypeInfo) (ht : P.underlying t = some (.slice e)) (hi : P.info? e = some i)
  (g sLen sCap : Nat) (cur : Array Value) (e' : TypeId) (hg : w.heap[g]? = some (.cells cur e' (0, 0)))
  (a : Addr) (m c : Nat) (news : List Value) (hl : news.length = m * i.size) (hnews : ∀ j u, news[j]? = some u → w.cell? (a.add j) = some u) (h1 : ∀ u ∈ news, u.oneCell' = true)
  (hroom : sLen + m ≤ sCap) (hfit : sLen * i.size + news.length ≤ cur.size) :
  (Builtin.append_ #[t, t] ty #[.slice (some ⟨g, 0, none⟩) sLen sCap, .slice (some a) m c]).run P w =
   .ok (.slice (some ⟨g, 0, none⟩) (sLen + m) sCap) (w.setRow g (cur.toList.take (sLen * i.size) ++ news ++ cur.toList.drop (sLen * i.size + news.length)).toArray) := by
 have hf := run_firstCells_some (P := P) w i.size m a m c news hl hnews
 have hst := run_storeCells_at P g (sLen * i.size) e' news 0 cur w hg (by simpa using hfit) h1
 simp only [Nat.add_zero] at hst
 simp [Builtin.append_, run_underlying ht, sizeOf, typeInfo, hi, Builtin.lenOf, hroom, hf, Addr.add_off, hst]
theorem run_append_nothing (t ty e : TypeId) (i : TypeInfo) (ht : P.underlying t = some (.slice e)) (hi : P.info? e = some i) (base : Option Addr) (m cap : Nat) (h : m ≤ cap) :
  (Builtin.append_ #[t, t] ty #[.slice base m cap, .slice none 0 0]).run P w = .ok (.slice base m cap) w := by
 cases base <;> simp [Builtin.append_, run_underlying ht, sizeOf, typeInfo, hi, Builtin.lenOf, h, Builtin.firstCells, storeCells]
theorem Aj3 (t ty e : TypeId) (i : TypeInfo) (ht : P.underlying t = some (.slice e)) (hi : P.info? e = some i) (ad : Addr) (cap : Nat) :
  (Builtin.append_ #[t, t] ty #[.slice none 0 0, .slice (some ad) 0 cap]).run P w = .ok (.slice none 0 0) w := by
 simp [Builtin.append_, run_underlying ht, sizeOf, typeInfo, hi, Builtin.lenOf, Builtin.firstCells, loadCells, loadCellsFrom]
inductive Appended (w : World) (sv : Value) (n0 m sz : Nat) (xs nv : List Value) : Value → World → Prop
 | room (g cap : Nat) (cur : Array Value) (e' : TypeId) (h1 : sv = .slice (some ⟨g, 0, none⟩) n0 cap) (h2 : w.heap[g]? = some (.cells cur e' (0, 0))) (h3 : n0 + m ≤ cap) (h4 : cap * sz = cur.size) :
   Appended w sv n0 m sz xs nv (.slice (some ⟨g, 0, none⟩) (n0 + m) cap) (w.setRow g (cur.toList.take (n0 * sz) ++ nv ++ cur.toList.drop (n0 * sz + nv.length)).toArray)
 | grown (cap : Nat) (arr : Array Value) (e' : TypeId) (h3 : n0 + m ≤ cap) (h4 : cap * sz = arr.size) (h5 : ∃ rest, arr.toList = xs ++ nv ++ rest) :
   Appended w sv n0 m sz xs nv (.slice (some ⟨w.heap.size, 0, none⟩) (n0 + m) cap) (w.drew.alloc (.cells arr e'))
 | nothing (cap : Nat) (base : Option Addr) (h1 : sv = .slice base n0 cap) (h2 : m = 0) : Appended w sv n0 m sz xs nv (.slice base n0 cap) w
theorem Ab7 {own' : Nat → Option Lab} {rt' : RT} (t ty e : TypeId) (i : TypeInfo) (z : Value) (ht : P.underlying t = some (.slice e)) (hi : P.info? e = some i) (hz : i.zero = some z) (hzs : z.cells.size = i.size)
  (sv xv : Value) (n0 m : Nat) (r0 : Option Nat) (xs nv : List Value) (news : List D) (c : Option Nat) (hx : SrcOk w own' rt' i.size r0 xv m news c nv)
  (hsv : (sv = .slice none 0 0 ∧ n0 = 0 ∧ xs = []) ∨ ∃ g cap cur e', sv = .slice (some ⟨g, 0, none⟩) n0 cap ∧ w.heap[g]? = some (.cells cur e' (0, 0)) ∧ n0 ≤ cap ∧ cap * i.size = cur.size ∧ xs.length = n0 * i.size ∧ (∀ (j : Nat) (u : Value), xs[j]? = some u → cur[j]? = some u))
  (hb : gA (n0 + m) i.bytes) : ∃ v' w', (Builtin.append_ #[t, t] ty #[sv, xv]).run P w = .ok v' w' ∧ Appended w sv n0 m i.size xs nv v' w' := by
 have hsmall : ((n0 + m : Nat) : Int) ≤ 9223372036854775807 := by have := hb.2; omega
 have hbig : ∀ old : Nat, grownCap w (n0 + m) old e ≥ n0 + m := fun old => grownCap_ge w (n0 + m) old e
 rcases hx.val with ⟨rfl, rfl, rfl⟩ | ⟨ad, cap, rfl, hl, hnews⟩
 ·rcases hsv with ⟨rfl, rfl, rfl⟩ | ⟨g, cap, cur, e', rfl, hg, hnc, hcs, _, _⟩
  ·exact ⟨_, _, run_append_nothing t ty e i ht hi none 0 0 (Nat.le_refl _), .nothing 0 none rfl rfl⟩
  ·exact ⟨_, _, run_append_nothing t ty e i ht hi _ n0 cap hnc, .nothing cap _ rfl rfl⟩
 ·rcases hsv with ⟨rfl, rfl, rfl⟩ | ⟨g, cap', cur, e', rfl, hg, hnc, hcs, hxl, hxs⟩
  ·by_cases hm : m = 0
   ·subst hm
    exact ⟨_, _, Aj3 t ty e i ht hi _ cap, .nothing 0 none rfl rfl⟩
   ·have hr := run_append_nil (P := P) w t ty e i z ht hi hz ad m cap nv hl hnews (by omega) (by omega) (by have := hb.1; simp only [Nat.zero_add] at this; omega)
    have hge := grownCap_ge w m 0 e
    refine ⟨_, _, hr, ?_⟩
    have := Appended.grown (w := w) (sv := .slice none 0 0) (n0 := 0) (m := m) (sz := i.size) (xs := []) (nv := nv) (grownCap w m 0 e) (nv.toArray ++ Builtin.zeroCells z.cells (grownCap w m 0 e - m)) e (by omega)
     (by simp only [Array.size_append, List.size_toArray, size_zeroCells, hzs, hl, ← Nat.add_mul]; congr 1; omega) ⟨(Builtin.zeroCells z.cells (grownCap w m 0 e - m)).toList, by simp⟩
    simpa using this
  ·by_cases hroom : n0 + m ≤ cap'
   ·have hfit : n0 * i.size + nv.length ≤ cur.size := by rw [hl, ← hcs, ← Nat.add_mul]; exact Nat.mul_le_mul_right _ hroom
    exact ⟨_, _, Arw t ty e i ht hi g n0 cap' cur e' hg ad m cap nv hl hnews hx.one hroom hfit, .room g cap' cur e' rfl hg hroom hcs⟩
   ·have holds : ∀ j u, xs[j]? = some u → w.cell? ((⟨g, 0, none⟩ : Addr).add j) = some u := fun j u h => by
     rw [Addr.add_off, Nat.zero_add, cell_of_heap hg]; exact hxs j u h
    have hr := run_append_grow (P := P) w t ty e i z ht hi hz ⟨g, 0, none⟩ n0 cap' xs hxl holds ad m cap nv hl hnews (by omega) hsmall (growslice_fits (by omega) hb.1)
    have hge := grownCap_ge w (n0 + m) cap' e
    exact ⟨_, _, hr, .grown _ _ _ hge (by simp only [Array.size_append, List.size_toArray, size_zeroCells, hzs, hxl, hl, ← Nat.add_mul]; congr 1; omega)
     ⟨(Builtin.zeroCells z.cells (grownCap w (n0 + m) cap' e - (n0 + m))).toList, by simp⟩⟩
theorem Ai1 {own' : Nat → Option Lab} {rt' : RT} (t ty e : TypeId) (i : TypeInfo) (z : Value) (ht : P.underlying t = some (.slice e)) (hi : P.info? e = some i) (hz : i.zero = some z) (hzs : z.cells.size = i.size)
  (sv xv : Value) (n0 m : Nat) (r0 : Option Nat) (xs nv : List Value) (news : List D) (c : Option Nat) (hx : SrcOk w own' rt' i.size r0 xv m news c nv)
  (hsv : (sv = .slice none 0 0 ∧ n0 = 0 ∧ xs = []) ∨ ∃ ad : Addr, sv = .slice (some ad) n0 n0 ∧ xs.length = n0 * i.size ∧ (∀ (j : Nat) (u : Value), xs[j]? = some u → w.cell? (ad.add j) = some u)) (hm : 0 < m)
  (hb : gA (n0 + m) i.bytes) : ∃ cap arr, (Builtin.append_ #[t, t] ty #[sv, xv]).run P w = .ok (.slice (some ⟨w.heap.size, 0, none⟩) (n0 + m) cap) (w.drew.alloc (.cells arr e)) ∧
   n0 + m ≤ cap ∧ cap * i.size = arr.size ∧ ∃ rest, arr.toList = xs ++ nv ++ rest := by
 have hsmall : ((n0 + m : Nat) : Int) ≤ 9223372036854775807 := by have := hb.2; omega
 rcases hx.val with ⟨_, h0, _⟩ | ⟨ad, cap, rfl, hl, hnews⟩
 ·omega
 ·rcases hsv with ⟨rfl, rfl, rfl⟩ | ⟨ad', rfl, hxl, holds⟩
  ·have hr := run_append_nil (P := P) w t ty e i z ht hi hz ad m cap nv hl hnews (by omega) (by omega) (by have := hb.1; simp only [Nat.zero_add] at this; omega)
   have hge := grownCap_ge w m 0 e
   refine ⟨_, _, by simpa using hr, by omega, ?_, ⟨(Builtin.zeroCells z.cells (grownCap w m 0 e - m)).toList, by simp⟩⟩
   simp only [Array.size_append, List.size_toArray, size_zeroCells, hzs, hl, ← Nat.add_mul]; congr 1; omega
  ·have hr := run_append_grow (P := P) w t ty e i z ht hi hz ad' n0 n0 xs hxl holds ad m cap nv hl hnews (by omega) hsmall (growslice_fits (by omega) hb.1)
   have hge := grownCap_ge w (n0 + m) n0 e
   refine ⟨_, _, hr, hge, ?_, ⟨(Builtin.zeroCells z.cells (grownCap w (n0 + m) n0 e - (n0 + m))).toList, by simp⟩⟩
   simp only [Array.size_append, List.size_toArray, size_zeroCells, hzs, hxl, hl, ← Nat.add_mul]; congr 1; omega
theorem Al3 (t tn ty e : TypeId) (i : TypeInfo) (z : Value) (kn : IntKind) (ht : P.underlying t = some (.slice e)) (htn : P.underlying tn = some (.int kn)) (hi : P.info? e = some i) (hz : i.zero = some z) (hzs : z.cells.size = i.size) (h1c : ∀ u ∈ (Builtin.zeroCells z.cells 0).toList ++ z.cells.toList, u.oneCell' = true)
  (sv : Value) (n0 k : Nat) (h0 : 0 < k) (hs : 0 < i.size) (xs : List Value)
  (hsv : (sv = .slice none 0 0 ∧ n0 = 0 ∧ xs = []) ∨ ∃ g cap cur e', sv = .slice (some ⟨g, 0, none⟩) n0 cap ∧ w.heap[g]? = some (.cells cur e' (0, 0)) ∧ n0 ≤ cap ∧ cap * i.size = cur.size ∧ xs.length = n0 * i.size ∧ (∀ (j : Nat) (u : Value), xs[j]? = some u → cur[j]? = some u))
  (hb : gA (n0 + k) i.bytes) : ∃ v' w', (Builtin.append_ #[t, tn] ty #[sv, .int .i64 k]).run P w = .ok v' w' ∧ Appended w sv n0 k i.size xs (Builtin.zeroCells z.cells k).toList v' w' := by
 have hk : k ≠ 0 := by omega
 have h2 := hb.2
 have hw : IntKind.i64.wrap (k : Int) = k := by rw [IntKind.wrap_i64]; omega
 have h63' : ¬ (9223372036854775807 < ((n0 : Int) + (k : Int))) := by omega
 have hkb : k * i.bytes ≤ 140737488355328 := Nat.le_trans (Nat.mul_le_mul_right _ (by omega)) hb.1
 have h48i : ¬ (281474976710656 < (k : Int) * (i.bytes : Int)) := by
  rw [← Int.natCast_mul]; omega
 have hneg : ¬ ((k : Int) < 0) := by omega
 have hns : ¬ (k * i.size = 0) := Nat.mul_ne_zero hk (by omega)
 have hzl : (Builtin.zeroCells z.cells k).toList.length = k * i.size := by rw [Array.length_toList, size_zeroCells, hzs]
 rcases hsv with ⟨rfl, rfl, rfl⟩ | ⟨g, cap, cur, e', rfl, hg, hnc, hcs, hxl, hxs⟩
 ·have h48' : ¬ (281474976710656 < Builtin.nextslicecap (0 + k) 0 * i.bytes) := by
   have := growslice_fits (need := 0 + k) (old := 0) (bytes := i.bytes) (by omega) hb.1
   omega
  have hn : ¬ (0 + k ≤ 0) := by omega
  have hge := grownCap_ge w (0 + k) 0 e
  have hr : (Builtin.append_ #[t, tn] ty #[.slice none 0 0, .int .i64 k]).run P w =
   .ok (.slice (some ⟨w.heap.size, 0, none⟩) (0 + k) (grownCap w (0 + k) 0 e)) (w.drew.alloc (.cells (Builtin.zeroCells z.cells k ++ Builtin.zeroCells z.cells (grownCap w (0 + k) 0 e - (0 + k))) e)) := by
   simp only [Nat.zero_add] at h48' hn ⊢
   have h63n : ¬ (9223372036854775807 < (k : Int)) := by omega
   simp [Builtin.append_, run_underlying ht, run_underlying htn, sizeOf, typeInfo, zeroValue, hi, hz, asInt, asIntOf, hw, hk, hneg, hns, h63n, h48', h48i, Question.forced, run_firstCells_none, newRow, grownCap]
  refine ⟨_, _, hr, .grown _ _ _ hge ?_ ⟨(Builtin.zeroCells z.cells (grownCap w (0 + k) 0 e - (0 + k))).toList, by simp⟩⟩
  simp only [Array.size_append, size_zeroCells, hzs, ← Nat.add_mul]; congr 1; omega
 ·by_cases hroom : n0 + k ≤ cap
  ·have hfit : n0 * i.size + (Builtin.zeroCells z.cells k).toList.length ≤ cur.size := by rw [hzl, ← hcs, ← Nat.add_mul]; exact Nat.mul_le_mul_right _ hroom
   have hone : ∀ u ∈ (Builtin.zeroCells z.cells k).toList, u.oneCell' = true := fun u hu => by
    simp only [Builtin.zeroCells, Array.toList_map, List.mem_map] at hu
    obtain ⟨j, _, rfl⟩ := hu
    have hp : 0 < z.cells.size := by rw [hzs]; exact hs
    have hj : j % z.cells.size < z.cells.size := Nat.mod_lt _ hp
    refine h1c _ (List.mem_append_right _ ?_)
    rw [getElem!_pos z.cells (j % z.cells.size) hj]
    exact Array.mem_toList_iff.2 (Array.getElem_mem hj)
   have hst := run_storeCells_at P g (n0 * i.size) e' (Builtin.zeroCells z.cells k).toList 0 cur w hg (by simpa using hfit) hone
   simp only [Nat.add_zero] at hst
   have hr : (Builtin.append_ #[t, tn] ty #[.slice (some ⟨g, 0, none⟩) n0 cap, .int .i64 k]).run P w =
    .ok (.slice (some ⟨g, 0, none⟩) (n0 + k) cap) (w.setRow g (cur.toList.take (n0 * i.size) ++ (Builtin.zeroCells z.cells k).toList ++ cur.toList.drop (n0 * i.size + (Builtin.zeroCells z.cells k).toList.length)).toArray) := by
    have hst' := hst
    simp [Builtin.append_, run_underlying ht, run_underlying htn, sizeOf, typeInfo, zeroValue, hi, hz, asInt, asIntOf, hw, hroom, hneg, hns, h48i, Addr.add_off, hst]
   exact ⟨_, _, hr, .room g cap cur e' rfl hg hroom hcs⟩
  ·have holds : ∀ j u, xs[j]? = some u → w.drew.cell? ((⟨g, 0, none⟩ : Addr).add j) = some u := fun j u h => by
    rw [Addr.add_off, Nat.zero_add, show w.drew.cell? ⟨g, j, none⟩ = w.cell? ⟨g, j, none⟩ from rfl, cell_of_heap hg]; exact hxs j u h
   have hfo := run_firstCells_some (P := P) w.drew i.size n0 ⟨g, 0, none⟩ n0 cap xs hxl holds
   have h48' : ¬ (281474976710656 < Builtin.nextslicecap (n0 + k) cap * i.bytes) := by
    have := growslice_fits (need := n0 + k) (old := cap) (bytes := i.bytes) (by omega) hb.1
    omega
   have hge := grownCap_ge w (n0 + k) cap e
   have hr : (Builtin.append_ #[t, tn] ty #[.slice (some ⟨g, 0, none⟩) n0 cap, .int .i64 k]).run P w =
    .ok (.slice (some ⟨w.heap.size, 0, none⟩) (n0 + k) (grownCap w (n0 + k) cap e)) (w.drew.alloc (.cells (xs.toArray ++ Builtin.zeroCells z.cells k ++ Builtin.zeroCells z.cells (grownCap w (n0 + k) cap e - (n0 + k))) e)) := by
    simp [Builtin.append_, run_underlying ht, run_underlying htn, sizeOf, typeInfo, zeroValue, hi, hz, asInt, asIntOf, hw, hroom, hneg, hns, h63', h48', h48i, Question.forced, hfo, newRow, grownCap]
   refine ⟨_, _, hr, .grown _ _ _ hge ?_ ⟨(Builtin.zeroCells z.cells (grownCap w (n0 + k) cap e - (n0 + k))).toList, by simp⟩⟩
   simp only [Array.size_append, List.size_toArray, size_zeroCells, hzs, hxl, ← Nat.add_mul]; congr 1; omega
end
end Go.Vm
namespace Go.Vm
open Go Go.RowKit
theorem Sim.nilRoot {w0 : Base} {w : World} {env : Nat → D} {rt rt' : RT} {tm : Nat → Value} {own : Nat → Option Lab} (hs : Sim w0 env rt tm w own) (nr sz : Nat) (hnr : rt nr = none)
  (hrt : ∀ r, r ≠ nr → rt' r = rt r ∨ (rt r = none ∧ rt' r = some none)) (hnew : rt' nr = some (some ⟨false, sz, []⟩)) : Sim w0 env rt' tm w own := by
 have hno : ∀ b p, own b ≠ some (nr, p) := fun b p h => (hs.lab b nr p h).2.2 hnr
 have hk : ∀ r R, rt r = some (some R) → rt' r = some (some R) := fun r R h => by
  have hne : r ≠ nr := fun e => by rw [e, hnr] at h; cases h
  rcases hrt r hne with h1 | ⟨h1, _⟩
  ·rw [h1]; exact h
  ·rw [h1] at h; cases h
 have hfr : Fr w (okb w own) own rt w (okb w own) own rt' := by
  refine ⟨fun b h => ⟨h, rfl⟩, fun r h => ?_, fun r R' h0 h => ?_, fun _ _ _ _ _ _ _ _ => Iff.rfl, fun r R R' p h0 h1 hp => by
   have := hk r R h0; rw [h1] at this; cases this; exact hp, fun r R' b p arr e _ _ _ h => ⟨arr, h, rfl⟩⟩
  ·by_cases hne : r = nr
   ·rw [hne, hnew]; simp
   ·rcases hrt r hne with h1 | ⟨h1, _⟩
    ·rw [h1]; exact h
    ·exact absurd h1 h
  ·have hne : r ≠ nr := fun e => by rw [e, hnr] at h0; exact h0 rfl
   rcases hrt r hne with h1 | ⟨h1, _⟩
   ·exact ⟨R', by rw [← h1]; exact h⟩
   ·exact absurd h1 h0
 refine hs.change hfr hs.below (fun r R h => ?_) (fun b r p h => ?_) hs.inj (fun _ _ _ h _ => h)
 ·by_cases hne : r = nr
  ·subst hne; rw [hnew] at h; cases h
   exact .inr ⟨rfl, rfl, fun b => hno b []⟩
  ·rcases hrt r hne with h1 | ⟨_, h2⟩
   ·rw [h1] at h
    exact (hs.roots r R h).frame hfr (fun b p hp => ⟨hp, rfl⟩) (fun b p hp => hp)
   ·rw [h2] at h; cases h
 ·obtain ⟨h1, h2, h3⟩ := hs.lab b r p h
  exact ⟨fun hp => hfr.dead (h1 hp), h2, hfr.alive r h3⟩
section
variable {P : Program} {T : Tab} {w0 : Base} {w : World} {env : List D} {rt : RT} {own : Nat → Option Lab} {a : Act} {n : Nat} {o : Oper} {K : Res → Prop} {Kc : Act → World → Prop} {Q : Exit → Act → World → Prop}
structure AppOk (w : World) (own : Nat → Option Lab) (rt : RT) (sz : Nat) (r0 : Option Nat) (m : Nat) (news : List D) (c : Option Nat) (nv : List Value) : Prop where
 len : nv.length = news.length
 rel : ∀ (j : Nat) d v, news[j]? = some d → nv[j]? = some v → match c with
  | none => d.notOwn = true ∧ Sh w (okb w own) d v
  | some r2 => Tr w (okb w own) own (r2, [j]) d v
 lenm : nv.length = m * sz
 cons : ∀ r2, c = some r2 → r0 ≠ some r2 ∧ ∃ R, rt r2 = some (some R)
theorem SrcOk.app {sz m : Nat} {r0 c : Option Nat} {x : Value} {news : List D} {nv : List Value} (hx : SrcOk w own rt sz r0 x m news c nv) : AppOk w own rt sz r0 m news c nv :=
 ⟨hx.len, hx.rel, by
  rcases hx.val with ⟨_, e1, e2⟩ | ⟨_, _, _, e1, _⟩
  ·rw [e1, e2]; simp
  ·exact e1, hx.cons⟩
theorem I7 {tm : Nat → Value} {envf : Nat → D} (hs : Sim w0 envf rt tm w own) {sv v' : Value} {w' : World} {m0 m sz nr : Nat} {r0 : Option Nat} {r : Nat} {R : Root} {xs nv : List Value} {news : List D} {c : Option Nat} {bytes : Nat}
  (hap : Appended w sv m0 m sz xs nv v' w') (hx : AppOk w own rt sz r0 m news c nv) (_hz : sz ≠ 0) (hnr : rt nr = none) (hrnr : r ≠ nr)
  (hr0 : r0 = some r ∧ rt r = some (some R) ∧ R.box = false ∨ rt r = none ∧ R = ⟨false, sz, []⟩) (hm0 : m0 * sz = R.cs.length)
  (hsv : (sv = .slice none 0 0 ∧ m0 = 0 ∧ xs = []) ∨ ∃ g cap cur e', sv = .slice (some ⟨g, 0, none⟩) m0 cap ∧ w.heap[g]? = some (.cells cur e' (0, 0)) ∧ own g = some (r, []) ∧ m0 ≤ cap ∧ cap * sz = cur.size ∧ xs.length = m0 * sz ∧
   (∀ (j : Nat) (u : Value), xs[j]? = some u → cur[j]? = some u) ∧ (∀ (j : Nat) (d : D) (v : Value), R.cs[j]? = some d → cur[j]? = some v → Tr w (okb w own) own (r, [j]) d v))
  (_hb : gA (m0 + m) bytes) :
  ∃ own', Sim w0 envf (fun q => if q = nr then some (some ⟨false, sz, R.cs ++ news⟩) else if q = r ∨ c = some q then some none else rt q) tm w' own' ∧
   mF w' own' nr [] sz 0 (m0 + m) v' := by
 have hcond : ∀ q, (q = r ∨ (c.isSome = true ∧ q = c.getD 0 ∧ rt q ≠ none)) ↔ (q = r ∨ c = some q) := by
  intro q
  constructor
  ·rintro (h | ⟨h1, h2, _⟩)
   ·exact .inl h
   ·right; obtain ⟨c', rfl⟩ := Option.isSome_iff_exists.1 h1; simp at h2; rw [h2]
  ·rintro (h | h)
   ·exact .inl h
   ·right
    obtain ⟨_, R', hR'⟩ := hx.cons q h
    rw [h]; exact ⟨rfl, rfl, by rw [hR']; simp⟩
 have hfun : (fun q => if q = nr then some (some (⟨false, sz, R.cs ++ news⟩ : Root)) else if q = r ∨ (c.isSome = true ∧ q = c.getD 0 ∧ rt q ≠ none) then some none else rt q) =
   (fun q => if q = nr then some (some ⟨false, sz, R.cs ++ news⟩) else if q = r ∨ c = some q then some none else rt q) := by
  funext q; simp only [hcond q]
 have hcr : c.isSome = true → c.getD 0 ≠ r := fun h => by
  obtain ⟨c', rfl⟩ := Option.isSome_iff_exists.1 h
  obtain ⟨h1, R', hR'⟩ := hx.cons c' rfl
  simp only [Option.getD_some]
  rcases hr0 with ⟨h2, _⟩ | ⟨h2, _⟩
  ·intro e; rw [e, h2] at h1; exact h1 rfl
  ·intro e; rw [e, h2] at hR'; cases hR'
 have hrd : rt r ≠ some none := by
  rcases hr0 with ⟨_, h2, _⟩ | ⟨h2, _⟩
  ·rw [h2]; simp
  ·rw [h2]; simp
 have hcd : c.isSome = true → rt (c.getD 0) ≠ some none := fun h => by
  obtain ⟨c', rfl⟩ := Option.isSome_iff_exists.1 h
  obtain ⟨_, R', hR'⟩ := hx.cons c' rfl
  simp only [Option.getD_some]
  rw [hR']; simp
 have hxsl : xs.length = R.cs.length := by
  rcases hsv with ⟨_, h1, h2⟩ | ⟨_, _, _, _, _, _, _, _, _, h1, _⟩
  ·rw [h2, ← hm0, h1]; simp
  ·rw [h1, hm0]
 have hxsT : ∀ (i : Nat) d v, R.cs[i]? = some d → xs[i]? = some v → Tr w (okb w own) own (r, [i]) d v := fun i d v h1 h2 => by
  rcases hsv with ⟨_, _, h3⟩ | ⟨_, _, _, _, _, _, _, _, _, _, h3, h4⟩
  ·rw [h3] at h2; simp at h2
  ·exact h4 i d v h1 (h3 i v h2)
 have hrel : ∀ (j : Nat) d v, news[j]? = some d → nv[j]? = some v → if c.isSome then Tr w (okb w own) own (c.getD 0, [j]) d v else d.notOwn = true ∧ Sh w (okb w own) d v := fun j d v h1 h2 => by
  have := hx.rel j d v h1 h2
  cases c with
  | none => simpa using this
  | some c => simpa using this
 cases hap with
 | room g cap cur e' h1 h2 h3 h4 =>
  rcases hsv with ⟨h5, _⟩ | ⟨g', cap', cur', e'', h5, h6, h7, h8, h9, h10, h11, h12⟩
  ·rw [h1] at h5; cases h5
  ·rw [h1] at h5; cases h5
   rw [h2] at h6; cases h6
   have hnvl : nv.length = m * sz := hx.lenm
   have hfit : m0 * sz + nv.length ≤ cur.size := by rw [hnvl, ← h4, ← Nat.add_mul]; exact Nat.mul_le_mul_right _ h3
   have hxs' : xs = cur.toList.take (m0 * sz) := by
    apply List.ext_getElem?
    intro j
    by_cases hj : j < m0 * sz
    ·have hj2 : j < xs.length := by omega
     rw [List.getElem?_take, if_pos hj, List.getElem?_eq_getElem hj2, Array.getElem?_toList]
     exact (h11 j _ (List.getElem?_eq_getElem hj2)).symm
    ·rw [List.getElem?_eq_none (by omega), List.getElem?_eq_none (by rw [List.length_take]; omega)]
   have hg : Grew w (w.setRow g (cur.toList.take (m0 * sz) ++ nv ++ cur.toList.drop (m0 * sz + nv.length)).toArray) (some g) g true :=
    ⟨fun b _ hb => setRow_other w g b _ hb, by simp, by simp, rfl, rfl, rfl⟩
   obtain ⟨own', hsim, hlab⟩ := hs.append (r0 := r) (r2 := c.getD 0) (nr := nr) (cons := c.isSome) (inp := true) (R0 := R) (g := some g) (sz := sz) (newsD := news) (xs := xs) (news := nv)
    hnr hcr hrd hcd (fun b hb => by cases hb; exact h7) hg (setRow_heap w g cur _ e' _ h2)
    (by have := hx.len; rw [List.size_toArray, List.length_append, List.length_append, List.length_take, List.length_drop, Array.length_toList (xs := cur), ← hm0]; omega) hxsl
    (fun i hi => by
     rw [List.getElem?_toArray, List.append_assoc, List.getElem?_append_left (by rw [← hxs']; exact hi), hxs'])
    (fun j hj => by
     rw [List.getElem?_toArray, List.append_assoc, ← hxs', List.getElem?_append_right (by omega), Nat.add_sub_cancel_left, List.getElem?_append_left hj])
    hx.len hxsT hrel
   rw [hfun] at hsim
   refine ⟨own', hsim, .inl ⟨g, _, e', cap, 0, hlab, setRow_heap w g cur _ e' _ h2, rfl, h3, ?_, by simp⟩⟩
   rw [List.size_toArray, List.length_append, List.length_append, List.length_take, List.length_drop, Array.length_toList, Nat.zero_add, h4]
   omega
 | grown cap arr e' h3 h4 h5 =>
  obtain ⟨rest, h5⟩ := h5
  have hg : Grew w (w.drew.alloc (.cells arr e')) none w.heap.size false :=
   ⟨fun b hb _ => heap_alloc_old w.drew _ hb, by simp, by simp, rfl, rfl, rfl⟩
  have hheap : (w.drew.alloc (.cells arr e')).heap[w.heap.size]? = some (.cells arr e' (0, 0)) := heap_alloc_new w.drew _
  have hget : ∀ i, arr[i]? = (xs ++ nv ++ rest)[i]? := fun i => by rw [← h5, Array.getElem?_toList]
  obtain ⟨own', hsim, hlab⟩ := hs.append (r0 := r) (r2 := c.getD 0) (nr := nr) (cons := c.isSome) (inp := false) (R0 := R) (g := none) (sz := sz) (newsD := news) (xs := xs) (news := nv)
   hnr hcr hrd hcd (fun b hb => by cases hb) hg hheap
   (by have := congrArg List.length h5; simp only [Array.length_toList, List.length_append] at this; rw [this, ← hxsl, ← hx.len]; omega) hxsl
   (fun i hi => by rw [hget, List.append_assoc, List.getElem?_append_left hi])
   (fun j hj => by rw [hget, List.append_assoc, List.getElem?_append_right (by omega), Nat.add_sub_cancel_left, List.getElem?_append_left hj])
   hx.len hxsT hrel
  rw [hfun] at hsim
  exact ⟨own', hsim, .inl ⟨w.heap.size, _, e', cap, 0, hlab, hheap, rfl, h3, by simpa using h4, by simp⟩⟩
 | nothing cap base h1 h2 =>
  subst h2
  have hnil : nv = [] := List.eq_nil_of_length_eq_zero (by rw [hx.lenm]; simp)
  have hnews : news = [] := List.eq_nil_of_length_eq_zero (by rw [← hx.len, hnil]; rfl)
  rcases hsv with ⟨h5, h6, h7⟩ | ⟨g', cap', cur', e'', h5, h6, h7, h8, h9, h10, h11, h12⟩
  ·rw [h1] at h5
   cases h5
   have hcs : R.cs = [] := List.eq_nil_of_length_eq_zero (by rw [← hm0]; simp)
   obtain ⟨own1, hk⟩ := hs.kill r
   obtain ⟨fA, rt2, hk2, hrt2, hno⟩ : ∃ fA rt2, Sim w0 envf rt2 tm w fA ∧ (∀ q, q ≠ nr → rt2 q = if q = r ∨ c = some q then some none else rt q) ∧ rt2 nr = none := by
    cases hc : c with
    | none =>
     refine ⟨_, _, hk, fun q _ => ?_, by rw [RT.set_ne _ _ (Ne.symm hrnr)]; exact hnr⟩
     unfold RT.set; split
     ·rw [if_pos (by simp [*])]
     ·rw [if_neg (by simp [*])]
    | some c' =>
     obtain ⟨hc1, R', hR'⟩ := hx.cons c' hc
     have hcn : nr ≠ c' := fun e => by rw [← e, hnr] at hR'; cases hR'
     obtain ⟨mI, hk3⟩ := hk.kill c'
     refine ⟨mI, _, hk3, fun q _ => ?_, by rw [RT.set_ne _ _ hcn, RT.set_ne _ _ (Ne.symm hrnr)]; exact hnr⟩
     unfold RT.set; split
     ·rw [if_pos (by simp [*])]
     ·split
      ·rw [if_pos (by simp [*])]
      ·rename_i e1 e2
       rw [if_neg (by rintro (e3 | e3)
                      · exact e2 e3
                      · cases e3; exact e1 rfl)]
   refine ⟨fA, hk2.nilRoot nr sz hno (fun q hq => .inl ?_) (by simp [hcs, hnews]), .inr ⟨rfl, rfl, rfl, fun b hb => ?_⟩⟩
   ·rw [hrt2 q hq]; simp only [if_neg hq]
   ·exact (hk2.lab b nr [] hb).2.2 hno
  ·rw [h1] at h5; cases h5
   have hg : Grew w w (some g') g' true := ⟨fun b _ _ => rfl, Nat.le_refl _, by simp, rfl, rfl, rfl⟩
   obtain ⟨own', hsim, hlab⟩ := hs.append (r0 := r) (r2 := c.getD 0) (nr := nr) (cons := c.isSome) (inp := true) (R0 := R) (g := some g') (sz := sz) (newsD := news) (xs := xs) (news := nv)
    hnr hcr hrd hcd (fun b hb => by cases hb; exact h7) hg h6
    (by rw [hnews, ← hm0, ← h9]; simp; exact Nat.mul_le_mul_right _ h8) hxsl
    (fun i hi => by rw [List.getElem?_eq_getElem hi]; exact h11 i _ (List.getElem?_eq_getElem hi))
    (fun j hj => by rw [hnil] at hj; simp at hj) hx.len hxsT hrel
   rw [hfun] at hsim
   exact ⟨own', hsim, .inl ⟨g', _, _, cap, 0, hlab, h6, rfl, h8, by simpa using h9, by simp⟩⟩
theorem Aop (hT : TabOk P T) (hs : Sim w0 (fun i => env.getD i .undef) rt (fun i => a.tmps.getD i Go.undef) w own) (hn : ∀ res, K res → ∀ r, n ≤ r → r < n + res.new.length → rt r = none) (hg : cZ w0 env rt n a o.dst K Kc)
  (t t' : TypeId) (s x : Operand) (ho : o.op = .call { callee := .builtin .append, args := #[s, x], argTypes := #[t, t'] }) (h : nP T rt n t t' (aM env s) (aM env x) K) : o.wp P a w Kc Q := by
 have hsm := bZ hs s
 unfold nP at h
 have h1 := aO h; clear h; obtain ⟨hct, h⟩ := h1
 simp only [Bool.and_eq_true, Nat.beq_eq] at hct
 obtain ⟨rfl, hct⟩ := hct
 obtain ⟨it, d, hi, hu, _, _, _, htd⟩ := hT.info (nz hct)
 split at h
 ·rename_i e hty
  have h1 := aO h; clear h; obtain ⟨hes, h⟩ := h1
  simp only [Bool.and_eq_true, Nat.beq_eq] at hes
  rw [hty] at htd
  have := Ty.ofDesc_slice htd.symm; subst this
  obtain ⟨ie, de, hie, _, hsz, hby, hze, _⟩ := hT.info (nz hes.1)
  have hzm := rP (w := w) (ok := okb w own) (T.get e).zero
  have hzs : (T.get e).zero.cells.size = ie.size := by rw [hzm.1, hsz]; exact hes.2
  have run : ∀ v' w', (Builtin.append_ #[t, t] o.type #[a.eval s, a.eval x]).run P w = .ok v' w' → (execOp a.eval o).run P w = .ok (.value v') w' := fun v' w' hr => by
   simp [execOp, ho, resolve, invoke, builtin, hr]
  split at h
  ·rename_i hse
   rw [hse] at hsm
   have hsv := hsm.lit_inv
   obtain ⟨m, news, c, rd, nv, ⟨hroom, hk⟩, hsrc⟩ := zZ (own := own) hs hsz.symm h
   rw [lQ, ← hsz] at hk
   have hfresh := hn _ hk
   simp only [List.length_cons, List.length_nil] at hfresh
   have hn0 : rt n = none := hfresh n (Nat.le_refl _) (by omega)
   have hn1 : rt (n + 1) = none := hfresh (n + 1) (by omega) (by omega)
   obtain ⟨v', w', hr, hap⟩ := Ab7 (P := P) t o.type e ie _ hu hie hze hzs (a.eval s) (a.eval x) 0 m none [] nv news c hsrc (.inl ⟨hsv, rfl, rfl⟩) (by rw [Nat.zero_add, hby]; exact hroom)
   obtain ⟨own', hsim, href⟩ := I7 (r := n) (R := ⟨false, ie.size, []⟩) (bytes := ie.bytes) hs hap hsrc.app (by rw [hsz]; exact nz hes.1) hn1 (by omega) (.inr ⟨hn0, rfl⟩) (by simp) (.inl ⟨hsv, rfl, rfl⟩) (by rw [Nat.zero_add, hby]; exact hroom)
   have hrt : cS rt n { val := .ref (n + 1) [] ie.size 0 m, new := [none, some ⟨false, ie.size, news⟩], wr := c.toList.map (·, none), rd := rd } =
     (fun q => if q = n + 1 then some (some (⟨false, ie.size, [] ++ news⟩ : Root)) else if q = n ∨ c = some q then some none else rt q) := by
    funext q
    have hw : ∀ q, cW rt (c.toList.map (·, none)) q = if c = some q then some none else rt q := fun q => by
     cases c with
     | none => simp [cW]
     | some c' => simp only [Option.toList_some, List.map_cons, List.map_nil, cW, RT.set, Option.some.injEq]; by_cases hq : q = c' <;> simp [hq, eq_comm]
    simp only [cS, fG, List.length_cons, List.length_nil, hw]
    by_cases h1 : q = n + 1
    ·subst h1; rw [if_pos (by omega)]; simp
    ·by_cases h2 : q = n
     ·subst h2; rw [if_pos (by omega)]; simp
     ·rw [if_neg (by omega), if_neg h1]; simp [h2]
   refine gZ (run v' w' hr) (hg _ v' w' own' hk ?_ ?_)
   ·rw [hrt]; exact hsim
   ·rw [hrt]
    refine .ref _ _ _ _ _ _ (by simp) ?_ (fun _ _ => ⟨.inl rfl, by simpa using href⟩)
    rcases href with ⟨_, _, _, _, _, _, _, e, _⟩ | ⟨e, _⟩ <;> rw [e] <;> rfl
  ·rename_i sz cs hse
   have h1 := aO h; clear h; obtain ⟨hes2, hcell, h⟩ := h1
   obtain ⟨hsz2, hz⟩ := mG hes2
   rw [hse] at hsm
   have hful := hsm.full_inv
   obtain ⟨m, news, c, rd, nv, hc, hsrc⟩ := zZ (own := own) hs hsz2 h
   have h1 := aO hc; clear hc; obtain ⟨hcn, ⟨hm, hroom⟩, cs', hcs', hk⟩ := h1
   obtain rfl : c = none := by simpa using hcn
   have hfresh := hn _ hk
   simp only [List.length_cons, List.length_nil] at hfresh
   have hn0 : rt n = none := hfresh n (Nat.le_refl _) (by omega)
   have hn1 : rt (n + 1) = none := hfresh (n + 1) (by omega) (by omega)
   have hsze : ie.size = sz := by rw [hsz]; exact hsz2
   have hctwo : ∀ d ∈ cs, d.notOwn = true := fun d hd => (sD (hcell d hd)).1
   obtain ⟨xs, hxs1, hxs2, hxs3⟩ : ∃ xs : List Value, ((a.eval s = .slice none 0 0 ∧ cnt sz cs = 0 ∧ xs = []) ∨ ∃ ad : Addr, a.eval s = .slice (some ad) (cnt sz cs) (cnt sz cs) ∧ xs.length = cnt sz cs * sz ∧ (∀ (j : Nat) (u : Value), xs[j]? = some u → w.cell? (ad.add j) = some u)) ∧
     xs.length = cs.length ∧ (∀ (j : Nat) d v, cs[j]? = some d → xs[j]? = some v → Sh w (okb w own) d v) := by
    generalize a.eval s = sv at hful
    cases hful with
    | full _ _ base len hl =>
     cases hl with
     | nil => exact ⟨[], .inl ⟨rfl, by simp [gQ], rfl⟩, rfl, fun j d v h1 => by simp at h1⟩
     | wild _ _ ad => exact ⟨[], .inr ⟨ad, by simp [gQ], by simp [gQ], fun j u h1 => by simp at h1⟩, rfl, fun j d v h1 => by simp at h1⟩
     | list _ _ _ b off _ _ hlen hlc hb hc hr =>
      let nv : List Value := (List.range cs.length).map fun j => (w.cell? ⟨b, off + j, none⟩).getD .nilFunc
      have hnv : ∀ j u, nv[j]? = some u → w.cell? ⟨b, off + j, none⟩ = some u ∧ j < cs.length := fun j u hj => by
       simp only [nv, List.getElem?_map, Option.map_eq_some_iff] at hj
       obtain ⟨k, hk, hj⟩ := hj
       have hk2 := List.getElem?_eq_some_iff.1 hk
       obtain ⟨hk3, hk4⟩ := hk2
       simp at hk3 hk4; subst hk4
       obtain ⟨u', hu'⟩ := Option.isSome_iff_exists.1 (hc j hk3)
       rw [hu'] at hj ⊢; simp at hj; exact ⟨by rw [hj], hk3⟩
      exact ⟨nv, .inr ⟨⟨b, off, none⟩, by rw [mS hz hlen], by rw [mS hz hlen, hlen]; simp [nv], fun j u hj => by rw [Addr.add_off]; exact (hnv j u hj).1⟩, by simp [nv], fun j d v h1 h2 => hr j d v h1 (hnv j v h2).1⟩
   have hm0 : cnt sz cs * sz = cs.length := by
    rcases hxs1 with ⟨_, h1, h2⟩ | ⟨_, _, h1, _⟩
    ·rw [← hxs2, h2, h1]; simp
    ·rw [← hxs2, h1]
   obtain ⟨cap, arr, hr, h3, h4, rest, h5⟩ := Ai1 (P := P) t o.type e ie _ hu hie hze hzs (a.eval s) (a.eval x) (cnt sz cs) m none xs nv news none (by rw [hsze]; exact hsrc) (by rw [hsze]; exact hxs1) hm (by rw [hby]; exact hroom)
   have hgw : Grew w (w.drew.alloc (.cells arr e)) none w.heap.size false :=
    ⟨fun b hb _ => heap_alloc_old w.drew _ hb, by simp, by simp, rfl, rfl, rfl⟩
   have hheap : (w.drew.alloc (.cells arr e)).heap[w.heap.size]? = some (.cells arr e (0, 0)) := heap_alloc_new w.drew _
   have hget : ∀ i, arr[i]? = (xs ++ nv ++ rest)[i]? := fun i => by rw [← h5, Array.getElem?_toList]
   obtain ⟨own', hsim, hlab⟩ := hs.append (r0 := n) (r2 := 0) (nr := n + 1) (cons := false) (inp := false) (R0 := ⟨false, sz, cs⟩) (g := none) (sz := sz) (newsD := news) (xs := xs) (news := nv)
    hn1 (fun h => by cases h) (by rw [hn0]; simp) (fun h => by cases h) (fun b hb => by cases hb) hgw hheap
    (by have := congrArg List.length h5; simp only [Array.length_toList, List.length_append] at this; rw [this, ← hsrc.len]; simp only; omega) hxs2
    (fun i hi => by rw [hget, List.append_assoc, List.getElem?_append_left hi])
    (fun j hj => by rw [hget, List.append_assoc, List.getElem?_append_right (by omega), Nat.add_sub_cancel_left, List.getElem?_append_left hj])
    hsrc.len (fun i d v h1 h2 => .sh _ _ _ (hctwo d (List.mem_of_getElem? h1)) (hxs3 i d v h1 h2)) (fun j d v h1 h2 => by simpa using hsrc.rel j d v h1 h2)
   have hrt : cS rt n { val := .ref (n + 1) [] sz 0 (cnt sz cs + m), new := [none, some ⟨false, sz, cs'⟩], rd := rd } =
     (fun q => if q = n + 1 then some (some (⟨false, sz, cs ++ news⟩ : Root)) else if q = n ∨ (false = true ∧ q = 0 ∧ rt q ≠ none) then some none else rt q) := by
    funext q
    simp only [cS, fG, List.length_cons, List.length_nil, cW]
    by_cases h1 : q = n + 1
    ·subst h1; rw [if_pos (by omega)]; simp [hcs']
    ·by_cases h2 : q = n
     ·subst h2; rw [if_pos (by omega)]; simp
     ·rw [if_neg (by omega), if_neg h1]; simp [h2]
   refine gZ (run _ _ hr) (hg _ _ _ own' hk ?_ ?_)
   ·rw [hrt]; exact hsim
   ·rw [hrt]
    exact .ref _ _ _ _ _ _ (by simp) rfl (fun _ _ => ⟨.inl rfl, .inl ⟨w.heap.size, _, e, cap, 0, hlab, hheap, rfl, h3, by simpa [hsze] using h4, by simp⟩⟩)
  ·rename_i r p sz off m0 hse
   have h1 := aO h; clear h; obtain ⟨hes2, h⟩ := h1
   obtain ⟨hsz2, hz⟩ := mG hes2
   rw [hse] at hsm
   split at h
   ·rename_i R hR
    have h1 := aO h; clear h; obtain ⟨hbox, h⟩ := h1
    simp only [Bool.not_eq_true'] at hbox
    obtain ⟨hm0, h⟩ := h
    obtain ⟨m, news, c, rd, nv, ⟨hroom, cs', hcs', hk⟩, hsrc⟩ := zZ (own := own) hs hsz2 h
    have hfresh := hn _ hk
    simp only [List.length_cons, List.length_nil] at hfresh
    have hn0 : rt n = none := hfresh n (Nat.le_refl _) (by omega)
    have hsze : ie.size = sz := by rw [hsz]; exact hsz2
    have hro := hsm.ref_inv.2 R hR
    obtain ⟨xs, hsv1, hsv2⟩ : ∃ xs, ((a.eval s = .slice none 0 0 ∧ m0 = 0 ∧ xs = []) ∨ ∃ g cap cur e', a.eval s = .slice (some ⟨g, 0, none⟩) m0 cap ∧ w.heap[g]? = some (.cells cur e' (0, 0)) ∧ m0 ≤ cap ∧ cap * sz = cur.size ∧ xs.length = m0 * sz ∧ (∀ (j : Nat) (u : Value), xs[j]? = some u → cur[j]? = some u)) ∧
      ((a.eval s = .slice none 0 0 ∧ m0 = 0 ∧ xs = []) ∨ ∃ g cap cur e', a.eval s = .slice (some ⟨g, 0, none⟩) m0 cap ∧ w.heap[g]? = some (.cells cur e' (0, 0)) ∧ own g = some (r, []) ∧ m0 ≤ cap ∧ cap * sz = cur.size ∧ xs.length = m0 * sz ∧
       (∀ (j : Nat) (u : Value), xs[j]? = some u → cur[j]? = some u) ∧ (∀ (j : Nat) (d : D) (v : Value), R.cs[j]? = some d → cur[j]? = some v → Tr w (okb w own) own (r, [j]) d v)) := by
     rcases hro with ⟨b, arr, e', cap, q, hb, hw, hv, hnc, hcs, hq⟩ | ⟨hv, _, hm, _⟩
     ·have hq' := hq (.inl rfl)
      simp only [Nat.zero_mul] at hq'; subst hq'
      simp only [Nat.zero_add] at hcs
      rcases hs.roots r R hR with ⟨b', arr', e'', k1, k2, k3, k4⟩ | ⟨_, _, k3⟩
      ·have hbb := hs.inj b' b _ k1 hb
       subst hbb
       rw [hw] at k2; cases k2
       have hxl : (arr.toList.take (m0 * sz)).length = m0 * sz := by
        rw [List.length_take, Array.length_toList]; omega
       have hxg : ∀ (j : Nat) (u : Value), (arr.toList.take (m0 * sz))[j]? = some u → arr[j]? = some u := fun j u hj => by
        rw [List.getElem?_take] at hj
        split at hj
        ·simpa using hj
        ·cases hj
       exact ⟨_, .inr ⟨b', cap, arr, e', hv, hw, hnc, hcs, hxl, hxg⟩, .inr ⟨b', cap, arr, e', hv, hw, hb, hnc, hcs, hxl, hxg, fun j d v h1 h2 => by
        have := k4 j d v h1 h2
        unfold bX at this; rw [hbox] at this; simpa using this⟩⟩
      ·exact absurd hb (k3 b)
     ·exact ⟨[], .inl ⟨hv, hm, rfl⟩, .inl ⟨hv, hm, rfl⟩⟩
    obtain ⟨v', w', hr, hap⟩ := Ab7 (P := P) t o.type e ie _ hu hie hze hzs (a.eval s) (a.eval x) m0 m (some r) xs nv news c (by rw [hsze]; exact hsrc) (by rw [hsze]; exact hsv1) (by rw [hby]; exact hroom)
    rw [hsze] at hap
    have hrn : r ≠ n := fun e1 => by rw [e1, hn0] at hR; cases hR
    obtain ⟨own', hsim, href⟩ := I7 (r := r) (R := R) (bytes := ie.bytes) hs hap hsrc.app hz hn0 hrn (.inl ⟨rfl, hR, hbox⟩) hm0 hsv2 (by rw [hby]; exact hroom)
    rw [hcs'] at hsim
    have hrt : cS rt n { val := .ref n [] sz 0 (m0 + m), new := [some ⟨false, sz, cs'⟩], wr := (r, none) :: c.toList.map (·, none), rd := r :: rd } =
      (fun q => if q = n then some (some (⟨false, sz, cs'⟩ : Root)) else if q = r ∨ c = some q then some none else rt q) := by
     funext q
     have hw : ∀ (rt : RT) q, cW rt (c.toList.map (·, none)) q = if c = some q then some none else rt q := fun rt q => by
      cases c with
      | none => simp [cW]
      | some c' => simp only [Option.toList_some, List.map_cons, List.map_nil, cW, RT.set, Option.some.injEq]; by_cases hq : q = c' <;> simp [hq, eq_comm]
     simp only [cS, oI, cW]
     unfold RT.set
     by_cases h1 : q = n
     ·simp [h1]
     ·rw [if_neg h1, if_neg h1]
      have := hw (RT.set rt r none) q
      unfold RT.set at this
      rw [this]
      by_cases h2 : q = r <;> by_cases h3 : c = some q <;> simp [h2, h3]
    refine gZ (run v' w' hr) (hg _ v' w' own' hk ?_ ?_)
    ·rw [hrt]; exact hsim
    ·rw [hrt]
     refine .ref _ _ _ _ _ _ (by simp) ?_ (fun _ _ => ⟨.inl rfl, href⟩)
     rcases href with ⟨_, _, _, _, _, _, _, e, _⟩ | ⟨e, _⟩ <;> rw [e] <;> rfl
   ·exact h.elim
  ·exact h.elim
 ·exact h.elim
theorem Aoi (z : Array Value) (k : Nat) (hz : 0 < z.size) (i : Nat) : (Builtin.zeroCells z k).toList[i]? = if i < k * z.size then z[i % z.size]? else none := by
 rw [Array.getElem?_toList]
 by_cases h : i < k * z.size
 ·rw [if_pos h]
  have hj : i % z.size < z.size := Nat.mod_lt _ hz
  simp [Builtin.zeroCells, h, hj]
 ·rw [if_neg h]
  simp [Builtin.zeroCells, h]
theorem Aky (hT : TabOk P T) (hs : Sim w0 (fun i => env.getD i .undef) rt (fun i => a.tmps.getD i Go.undef) w own) (hn : ∀ res, K res → ∀ r, n ≤ r → r < n + res.new.length → rt r = none) (hg : cZ w0 env rt n a o.dst K Kc)
  (t t' : TypeId) (s x : Operand) (k : Int) (ho : o.op = .call { callee := .builtin .append, args := #[s, x], argTypes := #[t, t'] }) (hxe : aM env x = .lit (.int .i64 k)) (h : qI T rt n t t' (aM env s) k K) : o.wp P a w Kc Q := by
 have hsm := bZ hs s
 have hxm := bZ hs x
 rw [hxe] at hxm
 have hxv := hxm.lit_inv
 unfold qI at h
 have h1 := aO h; clear h; obtain ⟨hct, h⟩ := h1
 simp only [Bool.and_eq_true] at hct
 obtain ⟨it, d, hi, hu, _, _, _, htd⟩ := hT.info (nz hct.1)
 obtain ⟨it', d', hi', hu', _, _, _, htd'⟩ := hT.info (nz hct.2)
 split at h
 ·rename_i e kn hty hty'
  have h1 := aO h; clear h; obtain ⟨hes, h⟩ := h1
  simp only [Bool.and_eq_true, Nat.beq_eq] at hes
  obtain ⟨hes, hones⟩ := hes
  rw [hty] at htd
  have := Ty.ofDesc_slice htd.symm; subst this
  rw [hty'] at htd'
  have := Ty.ofDesc_int htd'.symm; subst this
  obtain ⟨ie, de, hie, _, hsz, hby, hze, _⟩ := hT.info (nz hes.1)
  have hzm := rP (w := w) (ok := okb w own) (T.get e).zero
  have hzs : (T.get e).zero.cells.size = ie.size := by rw [hzm.1, hsz]; exact hes.2
  have hie0 : 0 < ie.size := by have := nz hes.1; omega
  have run : ∀ v' w', (Builtin.append_ #[t, t'] o.type #[a.eval s, a.eval x]).run P w = .ok v' w' → (execOp a.eval o).run P w = .ok (.value v') w' := fun v' w' hr => by
   simp [execOp, ho, resolve, invoke, builtin, hr]
  split at h
  ·rename_i r p sz off m0 hse
   have h1 := aO h; clear h; obtain ⟨hes2, h⟩ := h1
   obtain ⟨hsz2, hz⟩ := mG hes2
   rw [hse] at hsm
   split at h
   ·rename_i R hR
    have h1 := aO h; clear h; obtain ⟨hbox, h⟩ := h1
    simp only [Bool.not_eq_true'] at hbox
    obtain ⟨⟨hm0, hk0, hroom⟩, cs', hcs', hk⟩ := h
    obtain ⟨m, rfl⟩ := Int.eq_ofNat_of_zero_le (Int.le_of_lt hk0)
    simp only [Int.ofNat_eq_natCast, Int.toNat_natCast] at hroom hcs' hk hxv
    have hmp : 0 < m := by omega
    have hfresh := hn _ hk
    simp only [List.length_cons, List.length_nil] at hfresh
    have hn0 : rt n = none := hfresh n (Nat.le_refl _) (by omega)
    have hsze : ie.size = sz := by rw [hsz]; exact hsz2
    have hro := hsm.ref_inv.2 R hR
    obtain ⟨xs, hsv1, hsv2⟩ : ∃ xs, ((a.eval s = .slice none 0 0 ∧ m0 = 0 ∧ xs = []) ∨ ∃ g cap cur e', a.eval s = .slice (some ⟨g, 0, none⟩) m0 cap ∧ w.heap[g]? = some (.cells cur e' (0, 0)) ∧ m0 ≤ cap ∧ cap * sz = cur.size ∧ xs.length = m0 * sz ∧ (∀ (j : Nat) (u : Value), xs[j]? = some u → cur[j]? = some u)) ∧
      ((a.eval s = .slice none 0 0 ∧ m0 = 0 ∧ xs = []) ∨ ∃ g cap cur e', a.eval s = .slice (some ⟨g, 0, none⟩) m0 cap ∧ w.heap[g]? = some (.cells cur e' (0, 0)) ∧ own g = some (r, []) ∧ m0 ≤ cap ∧ cap * sz = cur.size ∧ xs.length = m0 * sz ∧
       (∀ (j : Nat) (u : Value), xs[j]? = some u → cur[j]? = some u) ∧ (∀ (j : Nat) (d : D) (v : Value), R.cs[j]? = some d → cur[j]? = some v → Tr w (okb w own) own (r, [j]) d v)) := by
     rcases hro with ⟨b, arr, e', cap, q, hb, hw, hv, hnc, hcs, hq⟩ | ⟨hv, _, hm, _⟩
     ·have hq' := hq (.inl rfl)
      simp only [Nat.zero_mul] at hq'; subst hq'
      simp only [Nat.zero_add] at hcs
      rcases hs.roots r R hR with ⟨b', arr', e'', k1, k2, k3, k4⟩ | ⟨_, _, k3⟩
      ·have hbb := hs.inj b' b _ k1 hb
       subst hbb
       rw [hw] at k2; cases k2
       have hxl : (arr.toList.take (m0 * sz)).length = m0 * sz := by
        rw [List.length_take, Array.length_toList]; omega
       have hxg : ∀ (j : Nat) (u : Value), (arr.toList.take (m0 * sz))[j]? = some u → arr[j]? = some u := fun j u hj => by
        rw [List.getElem?_take] at hj
        split at hj
        ·simpa using hj
        ·cases hj
       exact ⟨_, .inr ⟨b', cap, arr, e', hv, hw, hnc, hcs, hxl, hxg⟩, .inr ⟨b', cap, arr, e', hv, hw, hb, hnc, hcs, hxl, hxg, fun j d v h1 h2 => by
        have := k4 j d v h1 h2
        unfold bX at this; rw [hbox] at this; simpa using this⟩⟩
      ·exact absurd hb (k3 b)
     ·exact ⟨[], .inl ⟨hv, hm, rfl⟩, .inl ⟨hv, hm, rfl⟩⟩
    obtain ⟨v', w', hr, hap⟩ := Al3 (P := P) (w := w) t t' o.type e ie _ kn hu hu' hie hze hzs (fun u hu2 => by
     rcases List.mem_append.1 hu2 with h2 | h2
     ·simp [Builtin.zeroCells] at h2
     ·exact List.all_eq_true.1 hones u h2) (a.eval s) m0 m hmp hie0 xs (by rw [hsze]; exact hsv1) (by rw [hby]; exact hroom)
    rw [← hxv] at hr
    rw [hsze] at hap
    have hrn : r ≠ n := fun e1 => by rw [e1, hn0] at hR; cases hR
    have hapk : AppOk w own rt sz (some r) m (gO m (zeroCells (T.get e).zero)) none (Builtin.zeroCells (T.get e).zero.cells m).toList := by
     refine ⟨by rw [Array.length_toList, size_zeroCells, oP, hzm.1], fun j d v h1 h2 => ?_, by rw [Array.length_toList, size_zeroCells, hzs, hsze], fun r2 h => by cases h⟩
     rw [Aoi _ _ (by rw [hzs]; exact hie0)] at h2
     split at h2
     ·rename_i hj
      rw [wB, getElem?_replicate_flatten _ _ _ (by rw [← hzm.1]; exact hj), ← hzm.1] at h1
      exact (hzm.2 _ d v h1 h2).symm
     ·cases h2
    obtain ⟨own', hsim, href⟩ := I7 (r := r) (R := R) (bytes := ie.bytes) hs hap hapk hz hn0 hrn (.inl ⟨rfl, hR, hbox⟩) hm0 hsv2 (by rw [hby]; exact hroom)
    rw [hcs'] at hsim
    have hrt : cS rt n { val := .ref n [] sz 0 (m0 + m), new := [some ⟨false, sz, cs'⟩], wr := [(r, none)], rd := [r] } =
      (fun q => if q = n then some (some (⟨false, sz, cs'⟩ : Root)) else if q = r ∨ (none : Option Nat) = some q then some none else rt q) := by
     funext q
     simp only [cS, oI, cW]
     unfold RT.set
     by_cases h1 : q = n
     ·simp [h1]
     ·rw [if_neg h1, if_neg h1]
      by_cases h2 : q = r <;> simp [h2]
    refine gZ (run v' w' hr) (hg _ v' w' own' hk ?_ ?_)
    ·rw [hrt]; exact hsim
    ·rw [hrt]
     refine .ref _ _ _ _ _ _ (by simp) ?_ (fun _ _ => ⟨.inl rfl, href⟩)
     rcases href with ⟨_, _, _, _, _, _, _, e, _⟩ | ⟨e, _⟩ <;> rw [e] <;> rfl
   ·exact h.elim
  ·exact h.elim
 ·exact h.elim
end
end Go.Vm
namespace Go.Vm
open Go Go.RowKit
theorem Ais (f : List D → List D) : ∀ (p : List Nat) (cs c : List D), bE cs p = some c → bE (updB cs p f) p = some (f c) := by
 intro p
 induction p with
 | nil => intro cs c h; simp only [bE, Option.some.injEq] at h; subst h; rfl
 | cons i q ih =>
  intro cs c h
  simp only [bE] at h
  split at h
  ·rename_i sz cs' hi
   have hlt : i < cs.length := (List.getElem?_eq_some_iff.1 hi).1
   simp only [updB, hi, bE, List.getElem?_set_self hlt]
   exact ih cs' c h
  ·cases h
theorem Ahz (f g : List D → List D) : ∀ (p : List Nat) (cs c : List D), bE cs p = some c → updB (updB cs p f) p g = updB cs p (fun l => g (f l)) := by
 intro p
 induction p with
 | nil => intro cs c h; rfl
 | cons i q ih =>
  intro cs c h
  simp only [bE] at h
  split at h
  ·rename_i sz cs' hi
   have hlt : i < cs.length := (List.getElem?_eq_some_iff.1 hi).1
   simp only [updB, hi, List.getElem?_set_self hlt, List.set_set]
   rw [ih cs' c h]
  ·cases h
theorem Aer (f g : List D → List D) : ∀ (p : List Nat) (cs c : List D), bE cs p = some c → f c = g c → updB cs p f = updB cs p g := by
 intro p
 induction p with
 | nil => intro cs c h e; simp only [bE, Option.some.injEq] at h; subst h; exact e
 | cons i q ih =>
  intro cs c h e
  simp only [bE] at h
  split at h
  ·rename_i sz cs' hi
   simp only [updB, hi]
   rw [ih cs' c h e]
  ·cases h
theorem Ajq {cs : List D} {i : Nat} {x : D} (h : cs[i]? = some x) : cs.set i x = cs := by
 apply List.ext_getElem?
 intro j
 by_cases hj : i = j
 ·subst hj
  rw [List.getElem?_set_self (List.getElem?_eq_some_iff.1 h).1, h]
 ·rw [List.getElem?_set_ne hj]
theorem T8 : ∀ (p : List Nat) (cs : List D), updB cs p (fun l => l) = cs := by
 intro p
 induction p with
 | nil => intro cs; rfl
 | cons j q ih =>
  intro cs
  simp only [updB]
  split
  ·rename_i sz cs' hi
   rw [ih cs']
   exact Ajq hi
  ·rfl
theorem Akd : ∀ (ds c : List D) (off : Nat), off + ds.length ≤ c.length → setMany c off ds = c.take off ++ (ds ++ c.drop (off + ds.length)) := by
 intro ds
 induction ds with
 | nil => intro c off h; simp [setMany]
 | cons d ds ih =>
  intro c off h
  simp only [List.length_cons] at h
  rw [setMany, ih _ _ (by simp; omega)]
  have h1 : off < c.length := by omega
  rw [List.take_set, List.drop_set_of_lt (by omega), List.take_add_one, List.getElem?_eq_getElem h1, Option.toList_some, List.set_append_right _ _ (by rw [List.length_take]; omega)]
  have h2 : off - (c.take off).length = 0 := by rw [List.length_take]; omega
  rw [h2]
  simp only [List.set_cons_zero, List.append_assoc, List.cons_append, List.nil_append, List.length_cons]
  rw [show off + (ds.length + 1) = off + 1 + ds.length by omega]
section
variable {P : Program} {T : Tab} {w0 : Base} {w : World} {env : List D} {rt : RT} {own : Nat → Option Lab} {a : Act} {n : Nat} {o : Oper} {K : Res → Prop} {Kc : Act → World → Prop} {Q : Exit → Act → World → Prop}
theorem Ajp (P : Program) {tm : Nat → Value} {env : Nat → D} {r b : Nat} {p : List Nat} : ∀ (ds : List D) (vs : List Value) (off i : Nat) (rt : RT) (R : Root) (c : List D) (w : World), Sim w0 env rt tm w own → rt r = some (some R) → R.box = false →
  own b = some (r, p) → bE R.cs p = some c → vs.length = ds.length → off + i + ds.length ≤ c.length → (∀ d ∈ c, d.notOwn = true) →
  (∀ (j : Nat) d v, ds[j]? = some d → vs[j]? = some v → d.notOwn = true ∧ Sh w (okb w own) d v ∧ v.oneCell' = true) →
  ∃ w', (storeCells ⟨b, off, none⟩ vs i).run P w = .ok () w' ∧ Sim w0 env (rt.set r (some { R with cs := updB R.cs p (fun l => setMany l (off + i) ds) })) tm w' own := by
 intro ds
 induction ds with
 | nil =>
  intro vs off i rt R c w hs hR _ _ hg hl _ _ _
  have : vs = [] := List.eq_nil_of_length_eq_zero hl
  subst this
  refine ⟨w, rfl, ?_⟩
  have e0 : updB R.cs p (fun l => setMany l (off + i) []) = R.cs := T8 p R.cs
  have : rt.set r (some { R with cs := updB R.cs p (fun l => setMany l (off + i) []) }) = rt := by
   funext r1; unfold RT.set; split
   ·rename_i e; rw [e, hR, e0]
   ·rfl
  rw [this]; exact hs
 | cons d ds ih =>
  intro vs off i rt R c w hs hR hbox hb hg hl hle hno hm
  match vs, hl with
  | v :: vs, hl =>
   simp only [List.length_cons, Nat.add_right_cancel_iff] at hl hle
   obtain ⟨hdn, hsh, h1v⟩ := hm 0 d v rfl rfl
   have hs' : Sim w0 env rt tm w own := hs
   have hblk : (∃ b, gD w (okb w own) own r p b c) ∨ (c = [] ∧ ∀ b, own b ≠ some (r, p)) := by
    rcases hs.roots r R hR with ⟨b, arr, e, k1, k2, k3, k4⟩ | ⟨_, k2, k3⟩
    ·have hblk : gD w (okb w own) own r [] b R.cs := ⟨arr, e, k1, k2, k3, fun i d v hi hv => by
      have := k4 i d v hi hv; unfold bX at this; rw [hbox] at this; simpa using this⟩
     simpa using gD.get p [] b R.cs c hblk hg
    ·rw [k2] at hg
     cases p with
     | nil => simp only [bE, Option.some.injEq] at hg; exact .inr ⟨hg.symm, k3⟩
     | cons i q => simp [bE] at hg
   rcases hblk with ⟨b', arr, e, k1, k2, k3, k4⟩ | ⟨_, k⟩
   ·have hbb := hs.inj b' b _ k1 hb
    subst hbb
    have hlt : off + i < arr.size := by omega
    have hcell : w.cell? ⟨b', off + i, none⟩ = some arr[off + i] := by rw [cell_of_heap k2]; exact Array.getElem?_eq_getElem hlt
    have hfro : w.frozen? ⟨b', off + i, none⟩ = false := by simp [World.frozen?, k2]
    have hst := hs.storeRow (off := off + i) (v := v) (d := d) hR hbox hb hg (fun x hx => hno x (List.mem_of_getElem? hx)) hdn hsh
    have hfr := Sim.storeFr (rt := rt) (own := own) (R := R) (R' := R) (Stored.setCell w b' (off + i) v) (by simp [World.setCell]) hR hb (fun q hq => hq)
    have hg2 := Ais (fun l => l.set (off + i) d) p R.cs c hg
    obtain ⟨w', hrun, hsim⟩ := ih vs off (i + 1) _ { R with cs := updB R.cs p (fun l => l.set (off + i) d) } _ _ hst (RT.set_self _ _ _) hbox hb hg2 hl (by simp; omega)
     (fun x hx => by
      rcases List.mem_or_eq_of_mem_set hx with h | h
      ·exact hno x h
      ·rw [h]; exact hdn)
     (fun j d1 v1 h1 h2 => by
      obtain ⟨x1, x2, x3⟩ := hm (j + 1) d1 v1 (by simpa using h1) (by simpa using h2)
      exact ⟨x1, x2.frame hfr.ok, x3⟩)
    refine ⟨w', ?_, ?_⟩
    ·simp only [storeCells, Sem.run_bind, Addr.add_off]
     rw [run_store P w _ v _ h1v, hcell]
     simp only [hfro, Bool.false_eq_true, if_false, Result.andThen_ok]
     exact hrun
    ·have e1 : (rt.set r (some { R with cs := updB R.cs p (fun l => l.set (off + i) d) })).set r (some { box := R.box, sz := R.sz, cs := updB (updB R.cs p (fun l => l.set (off + i) d)) p (fun l => setMany l (off + (i + 1)) ds) }) = rt.set r (some { R with cs := updB R.cs p (fun l => setMany l (off + i) (d :: ds)) }) := by
      rw [Ahz _ _ p R.cs c hg]
      funext r1; unfold RT.set; split
      ·rfl
      ·rfl
     rw [e1] at hsim; exact hsim
   ·exact absurd hb (k b)
theorem Alw (dT sT ty elem : TypeId) (ad : Addr) (dLen dCap : Nat) (sa : Addr) (sLen sCap : Nat) (cs : List Value) {w' : World}
  (hu : P.underlying dT = some (.slice elem)) {i : TypeInfo} (hi : P.info? elem = some i) (hs : i.size = 1) (hn : cs.length = Nat.min sLen dLen)
  (hsrc : ∀ j v, cs[j]? = some v → w.cell? (sa.add j) = some v) (hst : (storeCells ad cs 0).run P w = .ok () w') :
  (Builtin.copy_ #[dT, sT] ty #[.slice (some ad) dLen dCap, .slice (some sa) sLen sCap]).run P w = .ok (goInt cs.length) w' := by
 have hl := run_loadCells_list (P := P) w sa cs hsrc
 simp [Builtin.copy_, run_underlying hu, Builtin.lenOf, Builtin.firstCells, sizeOf, typeInfo, hi, hs, ← hn, hl, hst]
theorem Ak2 (hT : TabOk P T) (hs : Sim w0 (fun i => env.getD i .undef) rt (fun i => a.tmps.getD i Go.undef) w own) (hg : cZ w0 env rt n a o.dst K Kc)
  (t t' : TypeId) (s x : Operand) (ho : o.op = .call { callee := .builtin .copy, args := #[s, x], argTypes := #[t, t'] }) (h : rD T rt t t' (aM env s) (aM env x) K) : o.wp P a w Kc Q := by
 have hsm := bZ hs s
 unfold rD at h
 have h1 := aO h; clear h; obtain ⟨hct, h⟩ := h1
 simp only [Bool.and_eq_true, Nat.beq_eq] at hct
 obtain ⟨rfl, hct⟩ := hct
 obtain ⟨it, d, hi, hu, _, _, _, htd⟩ := hT.info (nz hct)
 have run : ∀ v' w', (Builtin.copy_ #[t, t] o.type #[a.eval s, a.eval x]).run P w = .ok v' w' → (execOp a.eval o).run P w = .ok (.value v') w' := fun v' w' hr => by
  simp [execOp, ho, resolve, invoke, builtin, hr]
 split at h
 ·rename_i e r p sz off m0 hty hse
  have h1 := aO h; clear h; obtain ⟨hes, h⟩ := h1
  simp only [Bool.and_eq_true, Nat.beq_eq] at hes
  obtain ⟨⟨hes1, hsz1⟩, hpl⟩ := hes
  obtain ⟨hez, _⟩ := mG hes1
  subst hsz1
  rw [hty] at htd
  have := Ty.ofDesc_slice htd.symm; subst this
  obtain ⟨ie, de, hie, _, hsz, hby, hze, _⟩ := hT.info (t := e) (by rw [hez]; omega)
  rw [hez] at hsz
  rw [hse] at hsm
  split at h
  ·rename_i R hR
   have h1 := aO h; clear h; obtain ⟨hbox, h⟩ := h1
   simp only [Bool.not_eq_true'] at hbox
   obtain ⟨m, news, c, rd, nv, hk, hsrc⟩ := zZ (own := own) hs hez h
   have h1 := aO hk; clear hk; obtain ⟨hcn, hk⟩ := h1
   obtain ⟨c0, hcb, hle, hok, cs', hcs', hk⟩ := hk
   have hc0 : c = none := by simpa using hcn
   subst hc0
   have hro := hsm.ref_inv.2 R hR
   have hno : ∀ d ∈ c0, d.notOwn = true := fun d hd => (sD (hok d hd)).1
   have fin0 : min m m0 = 0 → (Builtin.copy_ #[t, t] o.type #[a.eval s, a.eval x]).run P w = .ok (goInt 0) w → o.wp P a w Kc Q := by
    intro hmin hr
    refine gZ (run _ _ hr) (hg _ (goInt 0) w own hk ?_ (by rw [hmin]; exact .sh _ _ (.lit _)))
    rw [zX]
    have e0 : cs' = R.cs := by
     rw [← hcs', hmin]
     have e1 := Aer (fun l => l.take off ++ (news.take 0 ++ l.drop (off + 0))) (fun l => l) p R.cs c0 hcb (by simp)
     rw [e1, T8]
    rw [e0]
    have : rt.set r (some R) = rt := by
     funext r1; unfold RT.set; split
     ·rename_i e; rw [e, hR]
     ·rfl
    have h2 : ({ R with cs := R.cs } : Root) = R := rfl
    rw [h2, this]; exact hs
   have hmm : ∀ (x y : Nat), Nat.min x y = min x y := fun _ _ => rfl
   rcases hro with ⟨b, arr, e', cap, q, hb, hw, hv, hnc, hcs, hq⟩ | ⟨hv, ho0, hm0, hnb⟩
   ·rcases hsrc.val with ⟨hxv, hm, hnv⟩ | ⟨sa, scap, hxv, hnl, hcell⟩
    ·refine fin0 (by omega) ?_
     rw [hv, hxv]
     exact run_copy_none (P := P) w t t o.type e _ none m0 cap 0 0 hu (by simp [hie, hsz]) (by simp)
    ·by_cases hmin : min m m0 = 0
     ·refine fin0 hmin ?_
      rw [hv, hxv]
      exact run_copy_none (P := P) w t t o.type e _ _ m0 cap m scap hu (by simp [hie, hsz]) hmin
     ·have hq' := hq (.inr (by omega))
      rw [Nat.mul_one] at hq' hnl
      subst hq'
      have hnewsl : news.length = m := by rw [← hsrc.len, hnl]
      have hone := hsrc.one
      obtain ⟨w', hrun, hsim⟩ := Ajp (w0 := w0) (own := own) P (p := p) (news.take (min m m0)) (nv.take (min m m0)) q 0 rt R c0 w hs hR hbox hb hcb
       (by rw [List.length_take, List.length_take, hsrc.len]) (by rw [List.length_take]; omega) hno (fun j d v h1 h2 => by
        have h3 : news[j]? = some d := by
         rw [List.getElem?_take] at h1; split at h1
         ·exact h1
         ·cases h1
        have h4 : nv[j]? = some v := by
         rw [List.getElem?_take] at h2; split at h2
         ·exact h2
         ·cases h2
        have := hsrc.rel j d v h3 h4
        exact ⟨this.1, this.2, hone v (List.mem_of_getElem? h4)⟩)
      have hr := Alw (P := P) (w := w) t t o.type e ⟨b, q, none⟩ m0 cap sa m scap (nv.take (min m m0)) hu hie hsz (by rw [List.length_take, hnl, hmm]; omega)
       (fun j v hj => by
        rw [List.getElem?_take] at hj
        split at hj
        ·exact hcell j v hj
        ·cases hj) hrun
      rw [← hv, ← hxv] at hr
      refine gZ (run _ _ hr) (hg _ _ w' own hk ?_ ?_)
      ·rw [zX]
       have e1 := Aer (fun l => l.take q ++ (news.take (min m m0) ++ l.drop (q + min m m0))) (fun l => setMany l (q + 0) (news.take (min m m0))) p R.cs c0 hcb (by
        show _ = setMany c0 (q + 0) (news.take (min m m0))
        rw [Nat.add_zero, Akd _ _ _ (by rw [List.length_take]; omega), List.length_take]
        have : min (min m m0) news.length = min m m0 := by omega
        rw [this])
       rw [← hcs', e1]
       exact hsim
      ·have : (nv.take (min m m0)).length = min m m0 := by rw [List.length_take]; omega
       rw [this]
       exact .sh _ _ (.lit _)
   ·refine fin0 (by omega) ?_
    rcases hsrc.val with ⟨hxv, hm, hnv⟩ | ⟨sa, scap, hxv, hnl, hcell⟩
    ·rw [hv, hxv]
     exact run_copy_none (P := P) w t t o.type e none none 0 0 0 0 hu (by simp [hie, hsz]) (by simp)
    ·rw [hv, hxv]
     exact run_copy_none (P := P) w t t o.type e none _ 0 0 m scap hu (by simp [hie, hsz]) (by simp)
  ·exact h.elim
 ·exact h.elim
theorem Tr.look {l : Lab} {d : D} {v : Value} (h : Tr w (okb w own) own l d v) (hlt : ∀ b l, own b = some l → b < w.heap.size) : Sh w (fun b => b < w.heap.size) d v := by
 induction h with
 | sh l d v _ h => exact h.frame (fun b hb => ⟨hb.2, rfl⟩)
 | nil l sz _ => exact .nil true sz
 | own l sz cs b len cap arr e hz hl hlc hb hw hc hs hr ih =>
  refine .list true sz cs b 0 len cap hl hlc (hlt b _ hb) (fun i hi => ?_) (fun i d v hd hv => ?_)
  ·rw [Nat.zero_add, cell_of_heap hw, Array.getElem?_eq_getElem (by omega)]; rfl
  ·rw [Nat.zero_add, cell_of_heap hw] at hv; exact ih i d v hd hv
theorem Ac0 {f : D → (D → List Nat → Prop) → Prop} {S : D → Value → Prop} : ∀ (ds : List D) (vs : List Value), vs.length = ds.length →
  (∀ (i : Nat) d v, ds[i]? = some d → vs[i]? = some v → ∀ K, f d K → ∃ d' rd, K d' rd ∧ S d' v) → ∀ K, jL f ds K →
  ∃ ds' rd, K ds' rd ∧ ds'.length = ds.length ∧ ∀ (i : Nat) d' v, ds'[i]? = some d' → vs[i]? = some v → S d' v := by
 intro ds
 induction ds with
 | nil => intro vs hl _ K h; exact ⟨[], [], h, rfl, fun i d' v h => by simp at h⟩
 | cons d ds ih =>
  intro vs hl hf K h
  match vs, hl with
  | v :: vs, hl =>
   simp only [jL] at h
   obtain ⟨d', rd, h, hs⟩ := hf 0 d v rfl rfl _ h
   obtain ⟨ds', rd', h, hl', hs'⟩ := ih vs (by simpa using hl) (fun i d v h1 h2 => hf (i + 1) d v (by simpa using h1) (by simpa using h2)) _ h
   refine ⟨_, _, h, by simp [hl'], fun i d1 v1 h1 h2 => ?_⟩
   cases i with
   | zero => simp at h1 h2; subst h1; subst h2; exact hs
   | succ i => exact hs' i d1 v1 (by simpa using h1) (by simpa using h2)
theorem Ai7 (hs : Sim w0 (fun i => env.getD i .undef) rt (fun i => a.tmps.getD i Go.undef) w own) : ∀ (k : Nat) (d : D) (v : Value) (K : D → List Nat → Prop), Mt w (okb w own) own rt d v → eL rt k d K →
  ∃ d' rd, K d' rd ∧ Sh w (fun b => b < w.heap.size) d' v := by
 have hlt : ∀ b l, own b = some l → b < w.heap.size := fun b l h => by obtain ⟨r, p⟩ := l; exact (hs.lab b r p h).2.1
 have sh : ∀ {d v}, Sh w (okb w own) d v → Sh w (fun b => b < w.heap.size) d v := fun h => h.frame (fun b hb => ⟨hb.2, rfl⟩)
 intro k
 induction k with
 | zero => intro d v K _ h; exact h.elim
 | succ k ih =>
  intro d v K hm h
  have list : ∀ (ds : List D) (vs : Array Value) K, vs.size = ds.length → (∀ (i : Nat) d u, ds[i]? = some d → vs[i]? = some u → Mt w (okb w own) own rt d u) → jL (eL rt k) ds K →
    ∃ ds' rd, K ds' rd ∧ ds'.length = ds.length ∧ ∀ (i : Nat) d' u, ds'[i]? = some d' → vs[i]? = some u → Sh w (fun b => b < w.heap.size) d' u := fun ds vs K hl hr h => by
   obtain ⟨ds', rd, h1, h2, h3⟩ := Ac0 (S := fun d v => Sh w (fun b => b < w.heap.size) d v) ds vs.toList (by simpa using hl) (fun i d v h1 h2 K h => ih d v K (hr i d v h1 (by simpa using h2)) h) K h
   exact ⟨ds', rd, h1, h2, fun i d' u k1 k2 => h3 i d' u k1 (by simpa using k2)⟩
  cases d with
  | undef => exact h.elim
  | kb b => exact ⟨_, _, h, by rw [hm.kb_inv]; exact .lit _⟩
  | lit v0 => exact ⟨_, _, h, by rw [hm.lit_inv]; exact .lit _⟩
  | list ob sz cs => exact ⟨_, _, h, sh hm.list_inv⟩
  | cptr cs off => exact ⟨_, _, h, sh hm.cptr_inv⟩
  | full sz cs => exact h.elim
  | agg ds =>
   obtain ⟨vs, rfl, hl, hr⟩ := hm.agg_inv
   obtain ⟨ds', rd, h1, h2, h3⟩ := list ds vs _ hl hr h
   exact ⟨_, _, h1, .agg _ _ (by rw [hl, h2]) h3⟩
  | tup ds => exact h.elim
  | fn f fs cs =>
   obtain ⟨first, caps, rfl, hl1, hl2, hr1, hr2⟩ := hm.fn_inv
   obtain ⟨fs', rd, h1, h2, h3⟩ := list fs first _ hl1 hr1 h
   obtain ⟨cs', rd', h1, h4, h5⟩ := list cs caps _ hl2 hr2 h1
   exact ⟨_, _, h1, .fn _ _ _ _ _ (by rw [hl1, h2]) (by rw [hl2, h4]) h3 h5⟩
  | ref r p sz off m =>
   simp only [eL] at h
   split at h
   ·rename_i R hR
    obtain ⟨hbox, c, hcb, hle, c', hc', hk⟩ := h
    refine ⟨_, _, hk, ?_⟩
    subst hc'
    rcases hm.ref_inv.2 R hR with ⟨b, arr, e', cap, q, hb, hw, hv, hnc, hcs, hq⟩ | ⟨hv, ho, hm0, hnb⟩
    ·subst hv
     have hsl : (sub c sz off m).length = m * sz := by
      rw [Nat.add_mul] at hle
      simp only [sub, List.length_take, List.length_drop]; omega
     by_cases hm0 : m = 0
     ·subst hm0
      have hnil : sub c sz off 0 = [] := List.eq_nil_of_length_eq_zero (by rw [hsl]; simp)
      rw [hnil]
      exact .list _ _ _ b q 0 cap (by simp) (by omega) (hlt b _ hb) (fun i h => by simp at h) (fun i d v h => by simp at h)
     ·have hq' := hq (.inr hm0)
      subst hq'
      rcases hs.blk hR hbox hcb with ⟨b', arr', e'', k1, k2, k3, k4⟩ | ⟨hnil, hno⟩
      ·have hbb := hs.inj b' b _ k1 hb
       subst hbb
       rw [hw] at k2; cases k2
       rw [Nat.add_mul] at hle
       refine .list _ _ _ b' (off * sz) m cap hsl.symm hnc (hlt b' _ hb) (fun i hi => ?_) (fun i d v hd hv => ?_)
       ·rw [hsl] at hi
        rw [cell_of_heap hw, Array.getElem?_eq_getElem (by omega)]; rfl
       ·rw [cell_of_heap hw] at hv
        simp only [sub, List.getElem?_take, List.getElem?_drop] at hd
        split at hd
        ·exact (k4 _ d v hd hv).look hlt
        ·cases hd
      ·exact absurd hb (hno b)
    ·subst hv; subst hm0; subst ho
     have hnil : sub c sz 0 0 = [] := by simp [sub]
     rw [hnil]
     exact .nil _ _
   ·exact h.elim
  | ptr r p off =>
   simp only [eL] at h
   split at h
   ·rename_i R hR
    obtain ⟨b, arr, e', hb, hw, hv⟩ := hm.ptr_inv.2 R hR
    subst hv
    split at h
    ·rename_i hbox
     obtain ⟨hp, h⟩ := h
     subst hp
     rcases hs.roots r R hR with ⟨b', arr', e'', k1, k2, k3, k4⟩ | ⟨k1, _, _⟩
     ·have hbb := hs.inj b' b _ k1 hb
      subst hbb
      rw [hw] at k2; cases k2
      obtain ⟨ds', rd, h1, h2, h3⟩ := list R.cs (arr.extract 0 R.cs.length) _ (by simp; omega) (fun i d u h1 h2 => by
       rw [Array.getElem?_extract] at h2
       split at h2
       ·rw [Nat.zero_add] at h2
        have := k4 i d u h1 h2
        unfold bX at this; rwa [if_pos hbox] at this
       ·cases h2) h
      refine ⟨_, _, h1, ?_⟩
      have := Sh.cptr (w := w) (ok := fun b => b < w.heap.size) ds' off b' 0 (hlt b' _ hb) (fun i hi => ?_) (fun i d v hd hv => ?_)
      ·simpa using this
      ·rw [h2] at hi
       rw [Nat.zero_add, cell_of_heap hw, Array.getElem?_eq_getElem (by omega)]; rfl
      ·rw [Nat.zero_add, cell_of_heap hw] at hv
       refine h3 i d v hd ?_
       have hi : i < R.cs.length := by rw [← h2]; exact (List.getElem?_eq_some_iff.1 hd).1
       rw [Array.getElem?_extract, if_pos (by omega), Nat.zero_add]; exact hv
     ·rw [hbox] at k1; cases k1
    ·rename_i hbox
     obtain ⟨c, hcb, h⟩ := h
     refine ⟨_, _, h, ?_⟩
     rcases hs.blk hR (by simpa using hbox) hcb with ⟨b', arr', e'', k1, k2, k3, k4⟩ | ⟨_, hno⟩
     ·have hbb := hs.inj b' b _ k1 hb
      subst hbb
      rw [hw] at k2; cases k2
      have := Sh.cptr (w := w) (ok := fun b => b < w.heap.size) c off b' 0 (hlt b' _ hb) (fun i hi => ?_) (fun i d v hd hv => ?_)
      ·simpa using this
      ·rw [Nat.zero_add, cell_of_heap hw, Array.getElem?_eq_getElem (by omega)]; rfl
      ·rw [Nat.zero_add, cell_of_heap hw] at hv
       exact (k4 i d v hd hv).look hlt
     ·exact absurd hb (hno b)
   ·exact h.elim
end
end Go.Vm
namespace Go.Vm
open Go Go.RowKit
section
variable {P : Program} {T : Tab} {w0 : Base} {w : World} {env : List D} {rt : RT} {own : Nat → Option Lab} {a : Act} {n : Nat} {o : Oper} {K : Res → Prop} {Kc : Act → World → Prop} {Q : Exit → Act → World → Prop}
theorem mC.take {tm : Nat → Value} {envf : Nat → D} (hs : Sim w0 envf rt tm w own) {w' : World} {rs : D} {v : Value} (hb : Below w.heap.size w w') (hr : mC w w' n rs v)
  (hn : ∀ r, n ≤ r → r < n + (dL n rs).2.length → rt r = none) :
  ∃ own', Sim w0 envf (fG rt n (dL n rs).2) tm w' own' ∧ Mt w' (okb w' own') own' (fG rt n (dL n rs).2) (dL n rs).1 v := by
 obtain ⟨ownr, h1, h2, h3, h4⟩ := hr
 have hlist : ∀ r x, gL n (dL n rs).2 r = some x → n ≤ r ∧ r < n + (dL n rs).2.length := fun r x h => by
  unfold gL at h
  split at h
  ·rename_i hle
   have := (List.getElem?_eq_some_iff.1 h).1
   exact ⟨hle, by omega⟩
  ·cases h
 have hnew : ∀ r, n ≤ r → r < n + (dL n rs).2.length → fG rt n (dL n rs).2 r = gL n (dL n rs).2 r := fun r k1 k2 => by
  simp only [fG, gL]; rw [if_pos ⟨k1, k2⟩, if_pos k1]
 have hold : ∀ r, rt r ≠ none → fG rt n (dL n rs).2 r = rt r := fun r h => by
  unfold fG; rw [if_neg]; rintro ⟨k1, k2⟩; exact h (hn r k1 k2)
 let own' : Nat → Option Lab := fun b => if b < w.heap.size then own b else ownr b
 have hlive : ∀ r R, gL n (dL n rs).2 r = some (some R) → fG rt n (dL n rs).2 r = some (some R) := fun r R h => by
  obtain ⟨k1, k2⟩ := hlist r _ h; rw [hnew r k1 k2]; exact h
 have hown : ∀ b r p, gL n (dL n rs).2 r ≠ none → (ownr b = some (r, p) ↔ own' b = some (r, p)) := fun b r p hr => by
  obtain ⟨x, hx⟩ := Option.ne_none_iff_exists'.1 hr
  obtain ⟨k1, k2⟩ := hlist r x hx
  constructor
  ·intro h
   have := (h1 b r p h).1
   simp only [own']; rw [if_neg (by omega)]; exact h
  ·intro h
   simp only [own'] at h
   split at h
   ·exact absurd (hn r k1 k2) (hs.lab b r p h).2.2
   ·exact h
 have hokn : ∀ b, xA w w' ownr b → okb w' own' b ∧ w'.heap[b]? = w'.heap[b]? := fun b hb => by
  refine ⟨⟨?_, hb.2.2⟩, rfl⟩
  simp only [own']; rw [if_neg (by have := hb.2.1; omega)]; exact hb.1
 have hsim : Sim w0 envf (fG rt n (dL n rs).2) tm w' own' := by
  refine hs.grow hb (fun b hlt => by simp only [own']; rw [if_pos hlt]) (fun b r p k1 k2 => ?_) hold (fun r R k1 k2 => ?_) (fun b b' l k1 k2 k3 k4 => ?_)
  ·simp only [own'] at k2; rw [if_neg (by omega)] at k2
   obtain ⟨_, m2, R, m3⟩ := h1 b r p k2
   obtain ⟨e1, e2⟩ := hlist r _ m3
   exact ⟨hn r e1 e2, m2, R, hlive r R m3⟩
  ·have hin : n ≤ r ∧ r < n + (dL n rs).2.length := by
    unfold fG at k2
    split at k2
    ·rename_i h; exact h
    ·rw [k1] at k2; cases k2
   rw [hnew r hin.1 hin.2] at k2
   obtain ⟨hbox, hroot⟩ := h3 r R k2
   have hne : gL n (dL n rs).2 r ≠ none := by rw [k2]; simp
   rcases hroot with ⟨b, arr, e, m1, m2, m3, m4⟩ | ⟨m1, m2, m3⟩
   ·refine .inl ⟨b, arr, e, (hown b r [] hne).1 m1, m2, m3, fun i d v hd hv => ?_⟩
    have := m4 i d v hd hv
    unfold bX at this ⊢
    rw [hbox] at this ⊢
    simp only [Bool.false_eq_true, if_false] at this ⊢
    exact this.frame hokn (fun b q hq => ⟨(hown b r _ hne).1 hq, rfl⟩) (fun b q hq => (hown b r _ hne).2 hq)
   ·exact .inr ⟨m1, m2, fun b hb' => m3 b ((hown b r [] hne).2 hb')⟩
  ·simp only [own'] at k3 k4; rw [if_neg (by omega)] at k3 k4
   exact h2 b b' l k3 k4
 refine ⟨own', hsim, h4.frame ⟨hokn, fun r h => ?_, fun r R' k1 k2 => ?_, fun r R R' k1 k2 b p _ => hown b r p (by rw [k1]; simp), fun r R R' p k1 k2 hp => by
  obtain ⟨e1, e2⟩ := hlist r _ k1
  rw [hnew r e1 e2, k1] at k2; cases k2; exact hp, fun r R' b p arr e k1 k2 k3 k4 => ⟨arr, k4, rfl⟩⟩⟩
 ·obtain ⟨x, hx⟩ := Option.ne_none_iff_exists'.1 h
  obtain ⟨k1, k2⟩ := hlist r x hx
  rw [hnew r k1 k2]; exact h
 ·obtain ⟨x, hx⟩ := Option.ne_none_iff_exists'.1 k1
  obtain ⟨e1, e2⟩ := hlist r x hx
  rw [hnew r e1 e2] at k2; exact ⟨R', k2⟩
theorem xV.wp {g : FuncId} {vals : Array Value} {R : Value → World → Prop} (h : xV P g vals w R) (he : execOp a.eval o = callFunc g vals) (hk : ∀ v w', R v w' → Kc (a.put o.dst v) w') : o.wp P a w Kc Q := by
 unfold Oper.wp
 rw [he]
 rcases h with ⟨fn, h1, h2, h3, h4⟩ | ⟨v, w', h1, h2⟩
 ·have hr : (callFunc g vals).run P w = .ok (.enter g vals) w := by
   have h2' : fn.name ≠ "runtime.NumGoroutine" := by simpa using h2
   have h3' : fn.body ≠ none := fun e => by rw [e] at h3; simp at h3
   simp [callFunc, program, Sem.run_bind, Sem.run, h1, h2', h3']
  rw [hr, Oper.upon_enter]
  exact h4.mono (fun e w' ⟨v, he, hR⟩ => by subst he; exact hk v w' hR)
 ·rw [h1]; exact hk v w' h2
theorem Ao6 (hs : Sim w0 (fun i => env.getD i .undef) rt (fun i => a.tmps.getD i Go.undef) w own) (hn : ∀ res, K res → ∀ r, n ≤ r → r < n + res.new.length → rt r = none) (hg : cZ w0 env rt n a o.dst K Kc)
  (f : Operand) (args : Array Operand) (ts : Array TypeId) (ho : o.op = .call { callee := .value f, args := args, argTypes := ts }) (h : mV P rt n (aM env f) (args.toList.map (aM env)) K) : o.wp P a w Kc Q := by
 have hf := bZ hs f
 unfold mV at h
 split at h
 ·rename_i g fs cs hfe
  rw [hfe] at hf
  obtain ⟨first, caps, hv, hl1, hl2, hr1, hr2⟩ := hf.fn_inv
  let vals : Array Value := first ++ args.map a.eval ++ caps
  have hvl : vals.toList = first.toList ++ (args.toList.map a.eval ++ caps.toList) := by simp [vals]
  have hmt : ∀ (i : Nat) d v, (fs ++ args.toList.map (aM env) ++ cs)[i]? = some d → vals.toList[i]? = some v → Mt w (okb w own) own rt d v := by
   intro i d v h1 h2
   rw [hvl] at h2
   rw [List.append_assoc] at h1
   by_cases hi : i < fs.length
   ·rw [List.getElem?_append_left hi] at h1
    rw [List.getElem?_append_left (by simpa [hl1] using hi)] at h2
    exact hr1 i d v h1 (by simpa using h2)
   ·rw [List.getElem?_append_right (by omega)] at h1
    rw [List.getElem?_append_right (by simp [hl1]; omega)] at h2
    simp only [Array.length_toList, hl1] at h2
    by_cases hi2 : i - fs.length < args.toList.length
    ·rw [List.getElem?_append_left (by simpa using hi2)] at h1 h2
     simp only [List.getElem?_map, Option.map_eq_some_iff] at h1 h2
     obtain ⟨x, hx, rfl⟩ := h1
     obtain ⟨y, hy, rfl⟩ := h2
     rw [hx] at hy; cases hy
     exact bZ hs x
    ·rw [List.getElem?_append_right (by simpa using hi2)] at h1 h2
     simp only [List.length_map] at h1 h2
     exact hr2 _ d v h1 (by simpa using h2)
  obtain ⟨ds, rd, ⟨rs, hpc, hk⟩, hdl, hds⟩ := Ac0 (S := fun d v => Sh w (fun b => b < w.heap.size) d v) _ vals.toList (by rw [hvl]; simp [hl1, hl2]) (fun i d v h1 h2 K h => Ai7 hs 6 d v K (hmt i d v h1 h2) h) _ h
  have hrun := hpc w vals n (by rw [hdl]; simp [vals, hl1, hl2]) (fun i d v h1 h2 => hds i d v h1 (by simpa using h2))
  refine hrun.wp ?_ (fun v w' hv' => ?_)
  ·simp [execOp, ho, resolve, hv, Deferred.ofValue, invoke, vals]
  ·obtain ⟨hb, hres⟩ := hv'
   obtain ⟨own', hsim, hm⟩ := hres.take hs hb (hn _ hk)
   exact hg _ v w' own' hk hsim hm
 ·exact h.elim
theorem Ahm (hs : Sim w0 (fun i => env.getD i .undef) rt (fun i => a.tmps.getD i Go.undef) w own) (hn : ∀ res, K res → ∀ r, n ≤ r → r < n + res.new.length → rt r = none) (hg : cZ w0 env rt n a o.dst K Kc)
  (f : Operand) (args : Array Operand) (ts : Array TypeId) (ho : o.op = .call { callee := .value f, args := args, argTypes := ts }) (h : lI P rt (aM env f) (args.toList.map (aM env)) K) : o.wp P a w Kc Q := by
 have hf := bZ hs f
 unfold lI at h
 split at h
 ·rename_i g hfe
  rw [hfe] at hf
  obtain ⟨first, caps, hv, hl1, hl2, _, _⟩ := hf.fn_inv
  have h1 : first = #[] := Array.eq_empty_of_size_eq_zero (by simpa using hl1)
  have h2 : caps = #[] := Array.eq_empty_of_size_eq_zero (by simpa using hl2)
  subst h1; subst h2
  split at h
  ·rename_i m r p sz off k hargs
   obtain ⟨l⟩ := args
   obtain ⟨x, y, rfl, hx, hy⟩ : ∃ x y, l = [x, y] ∧ aM env x = .lit (.int .i64 m) ∧ aM env y = .ref r p sz off k := by
    have hlen : l.length = 2 := by have := congrArg List.length hargs; simpa using this
    match l, hlen with
    | [x, y], _ => simp only [List.map_cons, List.map_nil, List.cons.injEq, and_true] at hargs; exact ⟨x, y, rfl, hargs.1, hargs.2⟩
   split at h
   ·rename_i R hR
    obtain ⟨hmk, hk⟩ := h
    have hxm := bZ hs x
    rw [hx] at hxm
    have hym := bZ hs y
    rw [hy] at hym
    have hxv := hxm.lit_inv
    obtain ⟨b, k', c, hyv⟩ : ∃ b k' c, a.eval y = .slice b k' c := by
     rcases hym.ref_inv.2 R hR with ⟨b, arr, e, cap, o, _, _, hv, _⟩ | ⟨hv, _⟩
     ·exact ⟨_, _, _, hv⟩
     ·exact ⟨_, _, _, hv⟩
    have hrun := hmk m b k' c w #[a.eval x, a.eval y] n rfl (fun i d v h1 h2 => by
     match i, h1, h2 with
     | 0, h1, h2 => simp at h1 h2; subst h1; subst h2; rw [hxv]; exact .lit _
     | 1, h1, h2 => simp at h1 h2; subst h1; subst h2; rw [hyv]; exact .lit _
     | i + 2, h1, h2 => simp at h1)
    refine hrun.wp ?_ (fun v w' hv' => ?_)
    ·simp [execOp, ho, resolve, hv, Deferred.ofValue, invoke]
    ·obtain ⟨hb, hres⟩ := hv'
     obtain ⟨own', hsim, hm⟩ := hres.take hs hb (hn _ hk)
     refine hg _ v w' own' hk hsim ?_
     obtain ⟨vs, rfl, hl, hr⟩ := (show Mt w' (okb w' own') own' _ (.agg [.lit (.int .i64 m), .lit (.slice b k' c)]) v from hm).agg_inv
     have hy' := bZ hsim y
     rw [hy] at hy'
     refine .agg _ _ (by simpa using hl) (fun i d u h1 h2 => ?_)
     match i, h1, h2 with
     | 0, h1, h2 =>
      simp at h1; subst h1
      exact hr 0 _ u rfl h2
     | 1, h1, h2 =>
      simp at h1; subst h1
      have := (hr 1 _ u rfl h2).lit_inv
      rw [this, ← hyv]; exact hy'
     | i + 2, h1, h2 => simp at h1
   ·exact h.elim
  ·rename_i m o2 sz cs hargs
   obtain ⟨l⟩ := args
   obtain ⟨x, rfl, hx⟩ : ∃ x, l = [x] ∧ aM env x = .agg [.lit (.int .i64 m), .list o2 sz cs] := by
    have hlen : l.length = 1 := by have := congrArg List.length hargs; simpa using this
    match l, hlen with
    | [x], _ => simp only [List.map_cons, List.map_nil, List.cons.injEq, and_true] at hargs; exact ⟨x, rfl, hargs⟩
   obtain ⟨rs, hsc, hk⟩ := h
   have hxm := bZ hs x
   rw [hx] at hxm
   obtain ⟨vs, hv2, hl, hr⟩ := hxm.agg_inv
   have hsh : Sh w (okb w own) (.agg [.lit (.int .i64 m), .list o2 sz cs]) (a.eval x) := by
    rw [hv2]
    refine .agg _ _ hl (fun i d u h1 h2 => ?_)
    match i, h1, h2 with
    | 0, h1, h2 =>
     simp at h1; subst h1
     have := (hr 0 _ u rfl h2).lit_inv
     rw [this]; exact .lit _
    | 1, h1, h2 =>
     simp at h1; subst h1
     exact (hr 1 _ u rfl h2).list_inv
    | i + 2, h1, h2 => simp at h1
   have hrun := hsc w #[a.eval x] (okb w own) (fun b h => h.2) rfl (fun i d v h1 h2 => by
    match i, h1, h2 with
    | 0, h1, h2 => simp at h1 h2; subst h1; subst h2; exact hsh
    | i + 1, h1, h2 => simp at h1)
   refine hrun.wp ?_ (fun v w' hv' => ?_)
   ·simp [execOp, ho, resolve, hv, Deferred.ofValue, invoke]
   ·obtain ⟨hb, hres⟩ := hv'
    have hsim : Sim w0 (fun i => env.getD i .undef) rt (fun i => a.tmps.getD i Go.undef) w' own :=
     hs.grow hb (fun b _ => rfl) (fun b r p h1 h2 => absurd (hs.lab b r p h2).2.1 (by omega)) (fun r _ => rfl) (fun r R h1 h2 => by rw [h1] at h2; cases h2)
      (fun b b' l h1 _ h2 _ => by obtain ⟨r, p⟩ := l; exact absurd (hs.lab b r p h2).2.1 (by omega))
    refine hg _ v w' own hk (by rw [zK]; exact hsim) ?_
    rw [zK]
    refine .sh _ _ (hres.frame (fun b hb2 => ⟨?_, rfl⟩))
    rcases hb2 with h | h
    ·exact ⟨h.1, Nat.lt_of_lt_of_le h.2 hb.size⟩
    ·exact ⟨hs.own_none (by omega), h.2⟩
  ·exact h.elim
 ·exact h.elim
theorem tB (hT : TabOk P T) (hs : Sim w0 (fun i => env.getD i .undef) rt (fun i => a.tmps.getD i Go.undef) w own) (hn : ∀ res, K res → ∀ r, n ≤ r → r < n + res.new.length → rt r = none) (hg : cZ w0 env rt n a o.dst K Kc)
  (h : bN P T env rt n o.op K) : o.wp P a w Kc Q := by
 have one : ∀ d x wr rd, K { val := d, new := [x], wr := wr, rd := rd } → rt n = none := fun d x wr rd hk => hn _ hk n (Nat.le_refl _) (by simp)
 cases hop : o.op <;> rw [hop] at h
 case move x => exact Aes hs hg x (.inl hop) h
 case assign x => exact Aes hs hg x (.inr hop) h
 case pick c x y => exact Aml (P := P) (T := T) hs hg c x y hop h
 case alloc e => exact Aqq hT hs (by simp only [bN] at h; exact one _ _ _ _ (aO h).2) hg e hop h
 case box e x =>
  refine Asn (T := T) hs ?_ hg e x hop h
  simp only [bN] at h
  split at h
  ·exact one _ _ _ _ h
  ·exact h.elim
 case build t parts => exact Ash hT hs hg t parts hop h
 case buildSlice t len parts =>
  simp only [bN, xO] at h
  refine Ajv hT hs ?_ hg t len parts hop h
  simp only [lK] at h
  have h := (aO h).2
  split at h
  ·have h := (aO h).2
   split at h
   ·have h := (aO h).2
    split at h
    ·exact one _ _ _ _ (aO h).2.2
    ·exact h.elim
   ·split at h
    ·have h := (aO h).2
     split at h
     ·exact one _ _ _ _ (aO h).2.2
     ·exact h.elim
    ·split at h
     ·have h := (aO h).2
      split at h
      ·exact one _ _ _ _ (aO h).2.2.2
      ·exact h.elim
     ·split at h
      ·have h := (aO h).2
       rw [lQ, qS] at h
       exact one _ _ _ _ h
      ·exact h.elim
  ·exact h.elim
 case load t x => exact Ajg hT hs hg t x hop h
 case store t x y => exact Ab9 hT hs hg t x y hop h
 case nilCheck x => exact Aq2 hs hg x hop h
 case binOp op t x y t' =>
  simp only [bN] at h
  split at h
  ·rename_i hye; exact Aip hT hs hg op t t' x y hop hye h
  ·exact Air hT hs hg op t t' x y hop h
 case unOp op t x => exact Ah8 hs hg op t x hop h
 case convert s d x => exact Amm hT hs hg s d x hop h
 case makeFunc fn first captured => exact Agu hs hg fn first captured hop h
 case makeSlice t l c =>
  refine As1 hT hs ?_ hg t l c hop h
  simp only [bN, sY] at h
  have h := (aO h).2
  split at h
  ·obtain ⟨_, k0, _, h⟩ := (aO h).2
   rw [lQ] at h
   obtain ⟨cs0, _, h⟩ := h
   exact one _ _ _ _ h
  ·exact h.elim
 case slice t x lo hi mx => exact Ama hT hs hg t x lo hi mx hop h
 case fieldAddr s x f => exact Aie hT hs hg s x f hop h
 case field s x f => exact Asa hT hs hg s x f hop h
 case indexAddr t x i => exact Alf hT hs hg t x i hop h
 case extract x i => exact Agp hs hg x i hop h
 case call c =>
  obtain ⟨callee, args, ts⟩ := c
  simp only [bN] at h
  cases callee with
  | value f =>
   rcases h with h | h
   ·exact Ao6 hs hn hg f args ts hop h
   ·exact Ahm hs hn hg f args ts hop h
  | invoke r m => exact h.elim
  | builtin b =>
   obtain ⟨args⟩ := args
   obtain ⟨ts⟩ := ts
   cases b <;> simp only at h
   case len =>
    split at h
    ·rename_i x t ; exact Aio hT hs hg t x hop h
    ·exact h.elim
   case append =>
    split at h
    ·rename_i s x t t'
     split at h
     ·rename_i k hxe; exact Aky hT hs hn hg t t' s x k hop hxe h
     ·exact Aop hT hs hn hg t t' s x hop h
    ·exact h.elim
   case copy =>
    split at h
    ·rename_i s x t t' ; exact Ak2 hT hs hg t t' s x hop h
    ·exact h.elim
   case max => exact W0 hs hg true ⟨args⟩ ⟨ts⟩ hop h
   case min => exact W0 hs hg false ⟨args⟩ ⟨ts⟩ hop h
   all_goals exact h.elim
 all_goals exact h.elim
end
end Go.Vm
