/- The evaluator is sound: copy; the call of a function by its contract. -/
import Derived.Test.YtnonhialafcjmaaVm14
import Derived.Laws.IdiomCopy
set_option linter.unusedVariables false
set_option linter.unusedSimpArgs false
set_option linter.unusedSectionVars false
namespace Go.Vm
open Go Go.RowKit

theorem getB_updB (f : List D → List D) : ∀ (p : List Nat) (cs c : List D), getB cs p = some c → getB (updB cs p f) p = some (f c) := by
  intro p
  induction p with
  | nil => intro cs c h; simp only [getB, Option.some.injEq] at h; subst h; rfl
  | cons i q ih =>
    intro cs c h
    simp only [getB] at h
    split at h
    · rename_i sz cs' hi
      have hlt : i < cs.length := (List.getElem?_eq_some_iff.1 hi).1
      simp only [updB, hi, getB, List.getElem?_set_self hlt]
      exact ih cs' c h
    · cases h

theorem updB_updB (f g : List D → List D) : ∀ (p : List Nat) (cs c : List D), getB cs p = some c → updB (updB cs p f) p g = updB cs p (fun l => g (f l)) := by
  intro p
  induction p with
  | nil => intro cs c h; rfl
  | cons i q ih =>
    intro cs c h
    simp only [getB] at h
    split at h
    · rename_i sz cs' hi
      have hlt : i < cs.length := (List.getElem?_eq_some_iff.1 hi).1
      simp only [updB, hi, List.getElem?_set_self hlt, List.set_set]
      rw [ih cs' c h]
    · cases h

theorem updB_congr (f g : List D → List D) : ∀ (p : List Nat) (cs c : List D), getB cs p = some c → f c = g c → updB cs p f = updB cs p g := by
  intro p
  induction p with
  | nil => intro cs c h e; simp only [getB, Option.some.injEq] at h; subst h; exact e
  | cons i q ih =>
    intro cs c h e
    simp only [getB] at h
    split at h
    · rename_i sz cs' hi
      simp only [updB, hi]
      rw [ih cs' c h e]
    · cases h

theorem set_same {cs : List D} {i : Nat} {x : D} (h : cs[i]? = some x) : cs.set i x = cs := by
  apply List.ext_getElem?
  intro j
  by_cases hj : i = j
  · subst hj
    rw [List.getElem?_set_self (List.getElem?_eq_some_iff.1 h).1, h]
  · rw [List.getElem?_set_ne hj]

theorem updB_id : ∀ (p : List Nat) (cs : List D), updB cs p (fun l => l) = cs := by
  intro p
  induction p with
  | nil => intro cs; rfl
  | cons j q ih =>
    intro cs
    simp only [updB]
    split
    · rename_i sz cs' hi
      rw [ih cs']
      exact set_same hi
    · rfl

theorem setMany_eq : ∀ (ds c : List D) (off : Nat), off + ds.length ≤ c.length → setMany c off ds = c.take off ++ (ds ++ c.drop (off + ds.length)) := by
  intro ds
  induction ds with
  | nil => intro c off h; simp [setMany]
  | cons d ds ih =>
    intro c off h
    simp only [List.length_cons] at h
    rw [setMany, ih _ _ (by simp; omega)]
    have h1 : off < c.length := by omega
    rw [List.take_set, List.drop_set_of_lt (by omega), List.take_add_one, List.getElem?_eq_getElem h1, Option.toList_some, List.set_append_right _ _ (by rw [List.length_take]; omega)]
    have h2 : off - (c.take off).length = 0 := by rw [List.length_take]; omega
    rw [h2]
    simp only [List.set_cons_zero, List.append_assoc, List.cons_append, List.nil_append, List.length_cons]
    rw [show off + (ds.length + 1) = off + 1 + ds.length by omega]

section
variable {P : Program} {T : Tab} {w0 : Base} {w : World} {env : List D} {rt : RT} {own : Nat → Option Lab} {a : Act} {n : Nat} {o : Oper} {K : Res → Prop} {Kc : Act → World → Prop} {Q : Exit → Act → World → Prop}

theorem storeRow_many (P : Program) {tm : Nat → Value} {env : Nat → D} {r b : Nat} {p : List Nat} : ∀ (ds : List D) (vs : List Value) (off i : Nat) (rt : RT) (R : Root) (c : List D) (w : World), Sim w0 env rt tm w own → rt r = some (some R) → R.box = false →
    own b = some (r, p) → getB R.cs p = some c → vs.length = ds.length → off + i + ds.length ≤ c.length → (∀ d ∈ c, d.notOwn = true) →
    (∀ (j : Nat) d v, ds[j]? = some d → vs[j]? = some v → d.notOwn = true ∧ Sh w (okb w own) d v ∧ v.oneCell' = true) →
    ∃ w', (storeCells ⟨b, off, none⟩ vs i).run P w = .ok () w' ∧ Sim w0 env (rt.set r (some { R with cs := updB R.cs p (fun l => setMany l (off + i) ds) })) tm w' own := by
  intro ds
  induction ds with
  | nil =>
    intro vs off i rt R c w hs hR _ _ hg hl _ _ _
    have : vs = [] := List.eq_nil_of_length_eq_zero hl
    subst this
    refine ⟨w, rfl, ?_⟩
    have e0 : updB R.cs p (fun l => setMany l (off + i) []) = R.cs := updB_id p R.cs
    have : rt.set r (some { R with cs := updB R.cs p (fun l => setMany l (off + i) []) }) = rt := by
      funext r1; unfold RT.set; split
      · rename_i e; rw [e, hR, e0]
      · rfl
    rw [this]; exact hs
  | cons d ds ih =>
    intro vs off i rt R c w hs hR hbox hb hg hl hle hno hm
    match vs, hl with
    | v :: vs, hl =>
      simp only [List.length_cons, Nat.add_right_cancel_iff] at hl hle
      obtain ⟨hdn, hsh, h1v⟩ := hm 0 d v rfl rfl
      have hs' : Sim w0 env rt tm w own := hs
      have hblk : (∃ b, Blk w (okb w own) own r p b c) ∨ (c = [] ∧ ∀ b, own b ≠ some (r, p)) := by
        rcases hs.roots r R hR with ⟨b, arr, e, k1, k2, k3, k4⟩ | ⟨_, k2, k3⟩
        · have hblk : Blk w (okb w own) own r [] b R.cs := ⟨arr, e, k1, k2, k3, fun i d v hi hv => by
            have := k4 i d v hi hv; unfold CellOk at this; rw [hbox] at this; simpa using this⟩
          simpa using Blk.get p [] b R.cs c hblk hg
        · rw [k2] at hg
          cases p with
          | nil => simp only [getB, Option.some.injEq] at hg; exact .inr ⟨hg.symm, k3⟩
          | cons i q => simp [getB] at hg
      rcases hblk with ⟨b', arr, e, k1, k2, k3, k4⟩ | ⟨_, k⟩
      · have hbb := hs.inj b' b _ k1 hb
        subst hbb
        have hlt : off + i < arr.size := by omega
        have hcell : w.cell? ⟨b', off + i, none⟩ = some arr[off + i] := by rw [cell_of_heap k2]; exact Array.getElem?_eq_getElem hlt
        have hfro : w.frozen? ⟨b', off + i, none⟩ = false := by simp [World.frozen?, k2]
        have hst := hs.storeRow (off := off + i) (v := v) (d := d) hR hbox hb hg (fun x hx => hno x (List.mem_of_getElem? hx)) hdn hsh
        have hfr := Sim.storeFr (rt := rt) (own := own) (R := R) (R' := R) (Stored.setCell w b' (off + i) v) (by simp [World.setCell]) hR hb (fun q hq => hq)
        have hg2 := getB_updB (fun l => l.set (off + i) d) p R.cs c hg
        obtain ⟨w', hrun, hsim⟩ := ih vs off (i + 1) _ { R with cs := updB R.cs p (fun l => l.set (off + i) d) } _ _ hst (RT.set_self _ _ _) hbox hb hg2 hl (by simp; omega)
          (fun x hx => by
            rcases List.mem_or_eq_of_mem_set hx with h | h
            · exact hno x h
            · rw [h]; exact hdn)
          (fun j d1 v1 h1 h2 => by
            obtain ⟨x1, x2, x3⟩ := hm (j + 1) d1 v1 (by simpa using h1) (by simpa using h2)
            exact ⟨x1, x2.frame hfr.ok, x3⟩)
        refine ⟨w', ?_, ?_⟩
        · simp only [storeCells, Sem.run_bind, Addr.add_off]
          rw [run_store P w _ v _ h1v, hcell]
          simp only [hfro, Bool.false_eq_true, if_false, Result.andThen_ok]
          exact hrun
        · have e1 : (rt.set r (some { R with cs := updB R.cs p (fun l => l.set (off + i) d) })).set r (some { box := R.box, sz := R.sz, cs := updB (updB R.cs p (fun l => l.set (off + i) d)) p (fun l => setMany l (off + (i + 1)) ds) }) = rt.set r (some { R with cs := updB R.cs p (fun l => setMany l (off + i) (d :: ds)) }) := by
            rw [updB_updB _ _ p R.cs c hg]
            funext r1; unfold RT.set; split
            · rfl
            · rfl
          rw [e1] at hsim; exact hsim
      · exact absurd hb (k b)

theorem run_copy_vm (dT sT ty elem : TypeId) (ad : Addr) (dLen dCap : Nat) (sa : Addr) (sLen sCap : Nat) (cs : List Value) {w' : World}
    (hu : P.underlying dT = some (.slice elem)) {i : TypeInfo} (hi : P.info? elem = some i) (hs : i.size = 1) (hn : cs.length = Nat.min sLen dLen)
    (hsrc : ∀ j v, cs[j]? = some v → w.cell? (sa.add j) = some v) (hst : (storeCells ad cs 0).run P w = .ok () w') :
    (Builtin.copy_ #[dT, sT] ty #[.slice (some ad) dLen dCap, .slice (some sa) sLen sCap]).run P w = .ok (goInt cs.length) w' := by
  have hl := run_loadCells_list (P := P) w sa cs hsrc
  simp [Builtin.copy_, run_underlying hu, Builtin.lenOf, Builtin.firstCells, sizeOf, typeInfo, hi, hs, ← hn, hl, hst]

theorem copy_sound (hT : TabOk P T) (hs : Sim w0 (fun i => env.getD i .undef) rt (fun i => a.tmps.getD i Go.undef) w own) (hg : Goal w0 env rt n a o.dst K Kc)
    (t t' : TypeId) (s x : Operand) (ho : o.op = .call { callee := .builtin .copy, args := #[s, x], argTypes := #[t, t'] }) (h : copyK T rt t t' (evO env s) (evO env x) K) : o.wp P a w Kc Q := by
  have hsm := evO_mt hs s
  unfold copyK at h
  have h1 := chk_and h; clear h; obtain ⟨hct, h⟩ := h1
  simp only [Bool.and_eq_true, Nat.beq_eq] at hct
  obtain ⟨rfl, hct⟩ := hct
  obtain ⟨it, d, hi, hu, _, _, _, htd⟩ := hT.info (nz hct)
  have run : ∀ v' w', (Builtin.copy_ #[t, t] o.type #[a.eval s, a.eval x]).run P w = .ok v' w' → (execOp a.eval o).run P w = .ok (.value v') w' := fun v' w' hr => by
    simp [execOp, ho, resolve, invoke, builtin, hr]
  split at h
  · rename_i e r p sz off m0 hty hse
    have h1 := chk_and h; clear h; obtain ⟨hes, h⟩ := h1
    simp only [Bool.and_eq_true, Nat.beq_eq] at hes
    obtain ⟨⟨hes1, hsz1⟩, hpl⟩ := hes
    obtain ⟨hez, _⟩ := elemIs_eq hes1
    subst hsz1
    rw [hty] at htd
    have := Ty.ofDesc_slice htd.symm; subst this
    obtain ⟨ie, de, hie, _, hsz, hby, hze, _⟩ := hT.info (t := e) (by rw [hez]; omega)
    rw [hez] at hsz
    rw [hse] at hsm
    split at h
    · rename_i R hR
      have h1 := chk_and h; clear h; obtain ⟨hbox, h⟩ := h1
      simp only [Bool.not_eq_true'] at hbox
      obtain ⟨m, news, c, rd, nv, hk, hsrc⟩ := src_sound (own := own) hs hez h
      have h1 := chk_and hk; clear hk; obtain ⟨hcn, hk⟩ := h1
      obtain ⟨c0, hcb, hle, hok, cs', hcs', hk⟩ := hk
      have hc0 : c = none := by simpa using hcn
      subst hc0
      have hro := hsm.ref_inv.2 R hR
      have hno : ∀ d ∈ c0, d.notOwn = true := fun d hd => (cellOk_and (hok d hd)).1
      have fin0 : min m m0 = 0 → (Builtin.copy_ #[t, t] o.type #[a.eval s, a.eval x]).run P w = .ok (goInt 0) w → o.wp P a w Kc Q := by
        intro hmin hr
        refine wp_value (run _ _ hr) (hg _ (goInt 0) w own hk ?_ (by rw [hmin]; exact .sh _ _ (.lit _)))
        rw [applyRes_wr]
        have e0 : cs' = R.cs := by
          rw [← hcs', hmin]
          have e1 := updB_congr (fun l => l.take off ++ (news.take 0 ++ l.drop (off + 0))) (fun l => l) p R.cs c0 hcb (by simp)
          rw [e1, updB_id]
        rw [e0]
        have : rt.set r (some R) = rt := by
          funext r1; unfold RT.set; split
          · rename_i e; rw [e, hR]
          · rfl
        have h2 : ({ R with cs := R.cs } : Root) = R := rfl
        rw [h2, this]; exact hs
      have hmm : ∀ (x y : Nat), Nat.min x y = min x y := fun _ _ => rfl
      rcases hro with ⟨b, arr, e', cap, q, hb, hw, hv, hnc, hcs, hq⟩ | ⟨hv, ho0, hm0, hnb⟩
      · rcases hsrc.val with ⟨hxv, hm, hnv⟩ | ⟨sa, scap, hxv, hnl, hcell⟩
        · refine fin0 (by omega) ?_
          rw [hv, hxv]
          exact run_copy_none (P := P) w t t o.type e _ none m0 cap 0 0 hu (by simp [hie, hsz]) (by simp)
        · by_cases hmin : min m m0 = 0
          · refine fin0 hmin ?_
            rw [hv, hxv]
            exact run_copy_none (P := P) w t t o.type e _ _ m0 cap m scap hu (by simp [hie, hsz]) hmin
          · have hq' := hq (.inr (by omega))
            rw [Nat.mul_one] at hq' hnl
            subst hq'
            have hnewsl : news.length = m := by rw [← hsrc.len, hnl]
            have hone := hsrc.one
            obtain ⟨w', hrun, hsim⟩ := storeRow_many (w0 := w0) (own := own) P (p := p) (news.take (min m m0)) (nv.take (min m m0)) q 0 rt R c0 w hs hR hbox hb hcb
              (by rw [List.length_take, List.length_take, hsrc.len]) (by rw [List.length_take]; omega) hno (fun j d v h1 h2 => by
                have h3 : news[j]? = some d := by
                  rw [List.getElem?_take] at h1; split at h1
                  · exact h1
                  · cases h1
                have h4 : nv[j]? = some v := by
                  rw [List.getElem?_take] at h2; split at h2
                  · exact h2
                  · cases h2
                have := hsrc.rel j d v h3 h4
                exact ⟨this.1, this.2, hone v (List.mem_of_getElem? h4)⟩)
            have hr := run_copy_vm (P := P) (w := w) t t o.type e ⟨b, q, none⟩ m0 cap sa m scap (nv.take (min m m0)) hu hie hsz (by rw [List.length_take, hnl, hmm]; omega)
              (fun j v hj => by
                rw [List.getElem?_take] at hj
                split at hj
                · exact hcell j v hj
                · cases hj) hrun
            rw [← hv, ← hxv] at hr
            refine wp_value (run _ _ hr) (hg _ _ w' own hk ?_ ?_)
            · rw [applyRes_wr]
              have e1 := updB_congr (fun l => l.take q ++ (news.take (min m m0) ++ l.drop (q + min m m0))) (fun l => setMany l (q + 0) (news.take (min m m0))) p R.cs c0 hcb (by
                show _ = setMany c0 (q + 0) (news.take (min m m0))
                rw [Nat.add_zero, setMany_eq _ _ _ (by rw [List.length_take]; omega), List.length_take]
                have : min (min m m0) news.length = min m m0 := by omega
                rw [this])
              rw [← hcs', e1]
              exact hsim
            · have : (nv.take (min m m0)).length = min m m0 := by rw [List.length_take]; omega
              rw [this]
              exact .sh _ _ (.lit _)
      · refine fin0 (by omega) ?_
        rcases hsrc.val with ⟨hxv, hm, hnv⟩ | ⟨sa, scap, hxv, hnl, hcell⟩
        · rw [hv, hxv]
          exact run_copy_none (P := P) w t t o.type e none none 0 0 0 0 hu (by simp [hie, hsz]) (by simp)
        · rw [hv, hxv]
          exact run_copy_none (P := P) w t t o.type e none _ 0 0 m scap hu (by simp [hie, hsz]) (by simp)
    · exact h.elim
  · exact h.elim

/-- A tree, looked at. -/
theorem Tr.look {l : Lab} {d : D} {v : Value} (h : Tr w (okb w own) own l d v) (hlt : ∀ b l, own b = some l → b < w.heap.size) : Sh w (fun b => b < w.heap.size) d v := by
  induction h with
  | sh l d v _ h => exact h.frame (fun b hb => ⟨hb.2, rfl⟩)
  | nil l sz _ => exact .nil true sz
  | own l sz cs b len cap arr e hz hl hlc hb hw hc hs hr ih =>
    refine .list true sz cs b 0 len cap hl hlc (hlt b _ hb) (fun i hi => ?_) (fun i d v hd hv => ?_)
    · rw [Nat.zero_add, cell_of_heap hw, Array.getElem?_eq_getElem (by omega)]; rfl
    · rw [Nat.zero_add, cell_of_heap hw] at hv; exact ih i d v hd hv

theorem mapK_sound {f : D → (D → List Nat → Prop) → Prop} {S : D → Value → Prop} : ∀ (ds : List D) (vs : List Value), vs.length = ds.length →
    (∀ (i : Nat) d v, ds[i]? = some d → vs[i]? = some v → ∀ K, f d K → ∃ d' rd, K d' rd ∧ S d' v) → ∀ K, mapK f ds K →
    ∃ ds' rd, K ds' rd ∧ ds'.length = ds.length ∧ ∀ (i : Nat) d' v, ds'[i]? = some d' → vs[i]? = some v → S d' v := by
  intro ds
  induction ds with
  | nil => intro vs hl _ K h; exact ⟨[], [], h, rfl, fun i d' v h => by simp at h⟩
  | cons d ds ih =>
    intro vs hl hf K h
    match vs, hl with
    | v :: vs, hl =>
      simp only [mapK] at h
      obtain ⟨d', rd, h, hs⟩ := hf 0 d v rfl rfl _ h
      obtain ⟨ds', rd', h, hl', hs'⟩ := ih vs (by simpa using hl) (fun i d v h1 h2 => hf (i + 1) d v (by simpa using h1) (by simpa using h2)) _ h
      refine ⟨_, _, h, by simp [hl'], fun i d1 v1 h1 h2 => ?_⟩
      cases i with
      | zero => simp at h1 h2; subst h1; subst h2; exact hs
      | succ i => exact hs' i d1 v1 (by simpa using h1) (by simpa using h2)

theorem res_sound (hs : Sim w0 (fun i => env.getD i .undef) rt (fun i => a.tmps.getD i Go.undef) w own) : ∀ (k : Nat) (d : D) (v : Value) (K : D → List Nat → Prop), Mt w (okb w own) own rt d v → resK rt k d K →
    ∃ d' rd, K d' rd ∧ Sh w (fun b => b < w.heap.size) d' v := by
  have hlt : ∀ b l, own b = some l → b < w.heap.size := fun b l h => by obtain ⟨r, p⟩ := l; exact (hs.lab b r p h).2.1
  have sh : ∀ {d v}, Sh w (okb w own) d v → Sh w (fun b => b < w.heap.size) d v := fun h => h.frame (fun b hb => ⟨hb.2, rfl⟩)
  intro k
  induction k with
  | zero => intro d v K _ h; exact h.elim
  | succ k ih =>
    intro d v K hm h
    have list : ∀ (ds : List D) (vs : Array Value) K, vs.size = ds.length → (∀ (i : Nat) d u, ds[i]? = some d → vs[i]? = some u → Mt w (okb w own) own rt d u) → mapK (resK rt k) ds K →
        ∃ ds' rd, K ds' rd ∧ ds'.length = ds.length ∧ ∀ (i : Nat) d' u, ds'[i]? = some d' → vs[i]? = some u → Sh w (fun b => b < w.heap.size) d' u := fun ds vs K hl hr h => by
      obtain ⟨ds', rd, h1, h2, h3⟩ := mapK_sound (S := fun d v => Sh w (fun b => b < w.heap.size) d v) ds vs.toList (by simpa using hl) (fun i d v h1 h2 K h => ih d v K (hr i d v h1 (by simpa using h2)) h) K h
      exact ⟨ds', rd, h1, h2, fun i d' u k1 k2 => h3 i d' u k1 (by simpa using k2)⟩
    cases d with
    | undef => exact h.elim
    | kb b => exact ⟨_, _, h, by rw [hm.kb_inv]; exact .lit _⟩
    | lit v0 => exact ⟨_, _, h, by rw [hm.lit_inv]; exact .lit _⟩
    | list ob sz cs => exact ⟨_, _, h, sh hm.list_inv⟩
    | cptr cs off => exact ⟨_, _, h, sh hm.cptr_inv⟩
    | agg ds =>
      obtain ⟨vs, rfl, hl, hr⟩ := hm.agg_inv
      obtain ⟨ds', rd, h1, h2, h3⟩ := list ds vs _ hl hr h
      exact ⟨_, _, h1, .agg _ _ (by rw [hl, h2]) h3⟩
    | tup ds => exact h.elim
    | fn f fs cs =>
      obtain ⟨first, caps, rfl, hl1, hl2, hr1, hr2⟩ := hm.fn_inv
      obtain ⟨fs', rd, h1, h2, h3⟩ := list fs first _ hl1 hr1 h
      obtain ⟨cs', rd', h1, h4, h5⟩ := list cs caps _ hl2 hr2 h1
      exact ⟨_, _, h1, .fn _ _ _ _ _ (by rw [hl1, h2]) (by rw [hl2, h4]) h3 h5⟩
    | ref r p sz off m =>
      simp only [resK] at h
      split at h
      · rename_i R hR
        obtain ⟨hbox, c, hcb, hle, c', hc', hk⟩ := h
        refine ⟨_, _, hk, ?_⟩
        subst hc'
        rcases hm.ref_inv.2 R hR with ⟨b, arr, e', cap, q, hb, hw, hv, hnc, hcs, hq⟩ | ⟨hv, ho, hm0, hnb⟩
        · subst hv
          have hsl : (sub c sz off m).length = m * sz := by
            rw [Nat.add_mul] at hle
            simp only [sub, List.length_take, List.length_drop]; omega
          by_cases hm0 : m = 0
          · subst hm0
            have hnil : sub c sz off 0 = [] := List.eq_nil_of_length_eq_zero (by rw [hsl]; simp)
            rw [hnil]
            exact .list _ _ _ b q 0 cap (by simp) (by omega) (hlt b _ hb) (fun i h => by simp at h) (fun i d v h => by simp at h)
          · have hq' := hq (.inr hm0)
            subst hq'
            rcases hs.blk hR hbox hcb with ⟨b', arr', e'', k1, k2, k3, k4⟩ | ⟨hnil, hno⟩
            · have hbb := hs.inj b' b _ k1 hb
              subst hbb
              rw [hw] at k2; cases k2
              rw [Nat.add_mul] at hle
              refine .list _ _ _ b' (off * sz) m cap hsl.symm hnc (hlt b' _ hb) (fun i hi => ?_) (fun i d v hd hv => ?_)
              · rw [hsl] at hi
                rw [cell_of_heap hw, Array.getElem?_eq_getElem (by omega)]; rfl
              · rw [cell_of_heap hw] at hv
                simp only [sub, List.getElem?_take, List.getElem?_drop] at hd
                split at hd
                · exact (k4 _ d v hd hv).look hlt
                · cases hd
            · exact absurd hb (hno b)
        · subst hv; subst hm0; subst ho
          have hnil : sub c sz 0 0 = [] := by simp [sub]
          rw [hnil]
          exact .nil _ _
      · exact h.elim
    | ptr r p off =>
      simp only [resK] at h
      split at h
      · rename_i R hR
        obtain ⟨b, arr, e', hb, hw, hv⟩ := hm.ptr_inv.2 R hR
        subst hv
        split at h
        · rename_i hbox
          obtain ⟨hp, h⟩ := h
          subst hp
          rcases hs.roots r R hR with ⟨b', arr', e'', k1, k2, k3, k4⟩ | ⟨k1, _, _⟩
          · have hbb := hs.inj b' b _ k1 hb
            subst hbb
            rw [hw] at k2; cases k2
            obtain ⟨ds', rd, h1, h2, h3⟩ := list R.cs (arr.extract 0 R.cs.length) _ (by simp; omega) (fun i d u h1 h2 => by
              rw [Array.getElem?_extract] at h2
              split at h2
              · rw [Nat.zero_add] at h2
                have := k4 i d u h1 h2
                unfold CellOk at this; rwa [if_pos hbox] at this
              · cases h2) h
            refine ⟨_, _, h1, ?_⟩
            have := Sh.cptr (w := w) (ok := fun b => b < w.heap.size) ds' off b' 0 (hlt b' _ hb) (fun i hi => ?_) (fun i d v hd hv => ?_)
            · simpa using this
            · rw [h2] at hi
              rw [Nat.zero_add, cell_of_heap hw, Array.getElem?_eq_getElem (by omega)]; rfl
            · rw [Nat.zero_add, cell_of_heap hw] at hv
              refine h3 i d v hd ?_
              have hi : i < R.cs.length := by rw [← h2]; exact (List.getElem?_eq_some_iff.1 hd).1
              rw [Array.getElem?_extract, if_pos (by omega), Nat.zero_add]; exact hv
          · rw [hbox] at k1; cases k1
        · rename_i hbox
          obtain ⟨c, hcb, h⟩ := h
          refine ⟨_, _, h, ?_⟩
          rcases hs.blk hR (by simpa using hbox) hcb with ⟨b', arr', e'', k1, k2, k3, k4⟩ | ⟨_, hno⟩
          · have hbb := hs.inj b' b _ k1 hb
            subst hbb
            rw [hw] at k2; cases k2
            have := Sh.cptr (w := w) (ok := fun b => b < w.heap.size) c off b' 0 (hlt b' _ hb) (fun i hi => ?_) (fun i d v hd hv => ?_)
            · simpa using this
            · rw [Nat.zero_add, cell_of_heap hw, Array.getElem?_eq_getElem (by omega)]; rfl
            · rw [Nat.zero_add, cell_of_heap hw] at hv
              exact (k4 i d v hd hv).look hlt
          · exact absurd hb (hno b)
      · exact h.elim

end
end Go.Vm
