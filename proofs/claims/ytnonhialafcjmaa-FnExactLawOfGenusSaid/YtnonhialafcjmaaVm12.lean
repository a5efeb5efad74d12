/- The evaluator is sound: literals of structs and slices. -/
import Derived.Test.YtnonhialafcjmaaVm11
set_option linter.unusedVariables false
set_option linter.unusedSimpArgs false
set_option linter.unusedSectionVars false
namespace Go.Vm
open Go Go.RowKit

def adLab (r2 nr : Nat) (l : Lab) : Lab := if l.1 = r2 then (nr, 0 :: l.2) else l
def ownAdopt (own : Nat → Option Lab) (b0 r2 nr : Nat) : Nat → Option Lab := fun b => if b = b0 then some (nr, []) else (own b).map (adLab r2 nr)

/-- A row becomes the one cell of a new row. -/
theorem Sim.adopt {w0 : Base} {w : World} {env : Nat → D} {rt : RT} {tm : Nat → Value} {own : Nat → Option Lab} (hs : Sim w0 env rt tm w own)
    {r2 nr sz m : Nat} {R2 : Root} {v : Value} {e : TypeId} (hR : rt r2 = some (some R2)) (hbox : R2.box = false) (hnr : rt nr = none) (hz : sz ≠ 0) (hm : m * sz = R2.cs.length)
    (hv : RefOk w own r2 [] sz 0 m v) :
    Sim w0 env ((rt.set r2 none).set nr (some ⟨false, 1, [.list true sz R2.cs]⟩)) tm (w.alloc (.cells #[v] e)) (ownAdopt own w.heap.size r2 nr) := by
  have hne : r2 ≠ nr := fun e => by rw [e, hnr] at hR; cases hR
  have hlab : ∀ b l, own b = some l → l.1 ≠ nr := fun b l h e => by
    obtain ⟨r, p⟩ := l; obtain ⟨_, _, R, hR'⟩ := hs.lab b r p h; simp only at e; rw [e, hnr] at hR'; cases hR'
  have hlt : ∀ b l, own b = some l → b < w.heap.size := fun b l h => by obtain ⟨r, p⟩ := l; exact (hs.lab b r p h).2.1
  have hheap : ∀ b, b < w.heap.size → (w.alloc (.cells #[v] e)).heap[b]? = w.heap[b]? := fun b hb => heap_alloc_old w _ hb
  have ho : ∀ b r p, ownAdopt own w.heap.size r2 nr b = some (r, p) → (b = w.heap.size ∧ r = nr ∧ p = []) ∨ (b ≠ w.heap.size ∧ r = nr ∧ ∃ q, p = 0 :: q ∧ own b = some (r2, q)) ∨ (b ≠ w.heap.size ∧ r ≠ nr ∧ r ≠ r2 ∧ own b = some (r, p)) := by
    intro b r p h
    unfold ownAdopt at h
    split at h
    · rename_i e1; cases h; exact .inl ⟨e1, rfl, rfl⟩
    · rename_i e1
      simp only [Option.map_eq_some_iff] at h
      obtain ⟨l, hl, h⟩ := h
      unfold adLab at h
      split at h
      · rename_i e2
        cases h
        refine .inr (.inl ⟨e1, rfl, l.2, rfl, ?_⟩)
        rw [hl, ← e2]
      · rename_i e2
        subst h
        exact .inr (.inr ⟨e1, hlab b _ hl, e2, hl⟩)
  have hkeep : ∀ r, r ≠ nr → r ≠ r2 → ∀ b p, own b = some (r, p) ↔ ownAdopt own w.heap.size r2 nr b = some (r, p) := by
    intro r h1 h2 b p
    constructor
    · intro h
      have := hlt b _ h
      unfold ownAdopt
      rw [if_neg (by omega), h, Option.map_some]
      unfold adLab; rw [if_neg h2]
    · intro h
      rcases ho b r p h with ⟨_, e1, _⟩ | ⟨_, e1, _⟩ | ⟨_, _, _, h⟩
      · exact absurd e1 h1
      · exact absurd e1 h1
      · exact h
  have hr2 : ∀ b q, own b = some (r2, q) ↔ ownAdopt own w.heap.size r2 nr b = some (nr, 0 :: q) := by
    intro b q
    constructor
    · intro h
      have := hlt b _ h
      unfold ownAdopt
      rw [if_neg (by omega), h, Option.map_some]
      unfold adLab; rw [if_pos rfl]
    · intro h
      rcases ho b _ _ h with ⟨_, _, e2⟩ | ⟨_, _, q', e2, h⟩ | ⟨_, e1, _⟩
      · cases e2
      · cases e2; exact h
      · exact absurd rfl e1
  have hlive : ∀ r R', rt r ≠ none → ((rt.set r2 none).set nr (some ⟨false, 1, [.list true sz R2.cs]⟩)) r = some (some R') → rt r = some (some R') ∧ r ≠ nr ∧ r ≠ r2 := by
    intro r R' h0 h
    unfold RT.set at h
    split at h
    · rename_i e1; rw [e1, hnr] at h0; exact absurd rfl h0
    · rename_i e1
      split at h
      · cases h
      · rename_i e2; exact ⟨h, e1, e2⟩
  have hfr : Fr w (okb w own) own rt (w.alloc (.cells #[v] e)) (okb (w.alloc (.cells #[v] e)) (ownAdopt own w.heap.size r2 nr)) (ownAdopt own w.heap.size r2 nr) ((rt.set r2 none).set nr (some ⟨false, 1, [.list true sz R2.cs]⟩)) := by
    refine ⟨fun b hk => ⟨⟨?_, by simp; have := hk.2; omega⟩, hheap b hk.2⟩, fun r h => ?_, fun r R' h0 h => ⟨R', (hlive r R' h0 h).1⟩, fun r R R' h0 h b p _ => ?_, fun r R R' p h0 h1 hp => by
      have := (hlive r R' (by rw [h0]; simp) h1).1; rw [h0] at this; cases this; exact hp, fun r R' b p arr e h0 h1 h2 h3 => ?_⟩
    · unfold ownAdopt; rw [if_neg (by have := hk.2; omega), hk.1]; rfl
    · unfold RT.set; split
      · simp
      · split
        · simp
        · exact h
    · obtain ⟨_, h1, h2⟩ := hlive r R' (by rw [h0]; simp) h
      exact hkeep r h1 h2 b p
    · exact ⟨arr, by rw [hheap b (hlt b _ h2)]; exact h3, rfl⟩
  have hbel : Below w0.heap.size w0 (w.alloc (.cells #[v] e)) := hs.below.alloc hs.below.size _
  refine hs.change hfr hbel (fun r R h => ?_) (fun b r p h => ?_) (fun b b' l h h' => ?_)
  · by_cases hrn : r = nr
    · subst hrn
      rw [RT.set_self] at h; cases h
      refine .inl ⟨w.heap.size, #[v], e, by simp [ownAdopt], heap_alloc_new w _, by simp, fun i d u hi hu => ?_⟩
      unfold CellOk
      simp only [Bool.false_eq_true, if_false]
      cases i with
      | succ i => simp at hi
      | zero =>
        simp at hi hu; subst hi; subst hu
        rcases hv with ⟨b, arr, e', cap, q, hb, hw, hve, hnc, hcs, hq⟩ | ⟨hve, _, hm0, hnb⟩
        · have := hq (.inl rfl)
          simp only [Nat.zero_mul] at this; subst this; subst hve
          rcases hs.roots r2 R2 hR with ⟨b', arr', e'', k1, k2, k3, k4⟩ | ⟨_, k2, k3⟩
          · have hbb := hs.inj b' b _ k1 hb
            subst hbb
            rw [hw] at k2; cases k2
            refine .own _ sz R2.cs b' m cap arr e' hz hm hnc ((hr2 b' []).1 hb) (by rw [hheap b' (hlt b' _ hb)]; exact hw) (by simpa using hcs) k3 (fun i d u hd hu => ?_)
            have hcell := k4 i d u hd hu
            unfold CellOk at hcell
            rw [hbox] at hcell
            simp only [Bool.false_eq_true, if_false] at hcell
            refine hcell.relab (r, [0] ++ [i]) hfr.ok (fun b q hq => ⟨?_, hheap b (hlt b _ hq)⟩) (fun b q hq => ?_)
            · simp only [List.cons_append, List.nil_append] at hq ⊢
              exact (hr2 b (i :: q)).1 hq
            · simp only [List.cons_append, List.nil_append] at hq ⊢
              exact (hr2 b (i :: q)).2 hq
          · exact absurd hb (k3 b)
        · subst hve; subst hm0
          have hnil : R2.cs = [] := List.eq_nil_of_length_eq_zero (by rw [← hm]; simp)
          rw [hnil]
          exact .nil _ _ (fun b hb => hnb b ((hr2 b []).2 hb))
    · have h0 : rt r ≠ none := by
        intro e1
        unfold RT.set at h
        rw [if_neg hrn] at h
        split at h
        · cases h
        · rw [e1] at h; cases h
      obtain ⟨k0, k1, k2⟩ := hlive r R h0 h
      exact (hs.roots r R k0).frame hfr (fun b p hp => ⟨(hkeep r k1 k2 b p).1 hp, hheap b (hlt b _ hp)⟩) (fun b p hp => (hkeep r k1 k2 b p).2 hp)
  · rcases ho b r p h with ⟨e1, e2, e3⟩ | ⟨_, e1, q, _, h1⟩ | ⟨_, h1, h2, h3⟩
    · exact ⟨by rw [e1]; exact hs.below.size, by simp [e1], ⟨_, by rw [e2]; exact RT.set_self _ _ _⟩⟩
    · obtain ⟨k1, k2, _⟩ := hs.lab b _ _ h1
      exact ⟨k1, by simp; omega, ⟨_, by rw [e1]; exact RT.set_self _ _ _⟩⟩
    · obtain ⟨k1, k2, R, k3⟩ := hs.lab b _ _ h3
      exact ⟨k1, by simp; omega, ⟨R, by rw [RT.set_ne _ _ h1, RT.set_ne _ _ h2]; exact k3⟩⟩
  · obtain ⟨r, p⟩ := l
    rcases ho b r p h with ⟨e1, e2, e3⟩ | ⟨n1, e1, q, e2, h1⟩ | ⟨n1, h1, h2, h3⟩ <;> rcases ho b' r p h' with ⟨e1', e2', e3'⟩ | ⟨n1', e1', q', e2', h1'⟩ | ⟨n1', h1', h2', h3'⟩
    · rw [e1, e1']
    · rw [e3] at e2'; cases e2'
    · exact absurd e2 h1'
    · rw [e3'] at e2; cases e2
    · rw [e2] at e2'; cases e2'; exact hs.inj b b' _ h1 h1'
    · exact absurd e1 h1'
    · exact absurd e2' h1
    · exact absurd e1' h1
    · exact hs.inj b b' _ h3 h3'

/-- The cells of a literal, filled. -/
theorem fill_ok {R : D → Value → Prop} {T : Tab} {place : Nat → Option (Nat × Nat)} {fs : List (Nat × Nat)} (hpl : ∀ i o t, fs[i]? = some (o, t) → (T.get t).size ≠ 0 → place i = some (o, (T.get t).size)) :
    ∀ (ps : List (Nat × D)) (vs : List (Nat × Value)) (cells res : List D) (cv : Array Value), fillD T fs cells ps = some res → cv.size = cells.length →
    (∀ (i : Nat) d v, cells[i]? = some d → cv[i]? = some v → R d v) → ps.length = vs.length →
    (∀ (j : Nat) p v, ps[j]? = some p → vs[j]? = some v → p.1 = v.1 ∧ (∀ cs, p.2.cells = some cs → cs ≠ [] ∧ v.2.cells.size = cs.length ∧ ∀ (i : Nat) x u, cs[i]? = some x → v.2.cells[i]? = some u → R x u)) →
    ∃ rv, Instr.fill place cv vs = some rv ∧ rv.size = res.length ∧ ∀ (i : Nat) d v, res[i]? = some d → rv[i]? = some v → R d v := by
  intro ps
  induction ps with
  | nil =>
    intro vs cells res cv h hl hr hlen _
    have : vs = [] := List.eq_nil_of_length_eq_zero hlen.symm
    subst this
    simp only [fillD, Option.some.injEq] at h; subst h
    exact ⟨cv, rfl, hl, hr⟩
  | cons p ps ih =>
    intro vs cells res cv h hl hr hlen hp
    match vs, hlen with
    | v :: vs, hlen =>
      obtain ⟨i, d⟩ := p
      obtain ⟨i', x⟩ := v
      obtain ⟨hi, hcs⟩ := hp 0 _ _ rfl rfl
      simp only at hi hcs; subst hi
      simp only [fillD] at h
      split at h
      · rename_i o t cs hf hc
        split at h
        · rename_i hb
          simp only [Bool.and_eq_true, beq_iff_eq, decide_eq_true_eq] at hb
          obtain ⟨hne, hsz, hrel⟩ := hcs cs hc
          have hpos : cs.length ≠ 0 := fun e => hne (List.eq_nil_of_length_eq_zero e)
          have hplace := hpl i o t hf (by rw [← hb.1]; exact hpos)
          have hset : ∀ (ds : List D) (us : List Value) (off : Nat) (cells : List D) (cv : Array Value), us.length = ds.length → cv.size = cells.length →
              (∀ (i : Nat) d v, cells[i]? = some d → cv[i]? = some v → R d v) → (∀ (i : Nat) x u, ds[i]? = some x → us[i]? = some u → R x u) → ∀ st,
              (((us.zipIdx st).foldl (fun cs (c, j) => cs.setIfInBounds (o + j) c) cv).size = (setMany cells (o + st) ds).length ∧
              ∀ (i : Nat) d v, (setMany cells (o + st) ds)[i]? = some d → ((us.zipIdx st).foldl (fun cs (c, j) => cs.setIfInBounds (o + j) c) cv)[i]? = some v → R d v) := by
            intro ds
            induction ds with
            | nil =>
              intro us off cells cv hl1 hl2 h1 h2 st
              have : us = [] := List.eq_nil_of_length_eq_zero hl1
              subst this
              exact ⟨hl2, h1⟩
            | cons d ds ihd =>
              intro us off cells cv hl1 hl2 h1 h2 st
              match us, hl1 with
              | u :: us, hl1 =>
                simp only [List.zipIdx_cons, List.foldl_cons, setMany]
                refine ihd us off (cells.set (o + st) d) (cv.setIfInBounds (o + st) u) (by simpa using hl1) (by simpa using hl2) (fun i x y hx hy => ?_) (fun i x y hx hy => h2 (i + 1) x y (by simpa using hx) (by simpa using hy)) (st + 1)
                by_cases hio : i = o + st
                · subst hio
                  have hlt : o + st < cells.length := by
                    rcases Nat.lt_or_ge (o + st) cells.length with h | h
                    · exact h
                    · rw [List.getElem?_eq_none (by simpa using h)] at hx; cases hx
                  rw [List.getElem?_set_self hlt] at hx
                  rw [Array.getElem?_setIfInBounds_self_of_lt (by omega)] at hy
                  cases hx; cases hy
                  exact h2 0 d u rfl rfl
                · rw [List.getElem?_set_ne (Ne.symm hio)] at hx
                  rw [Array.getElem?_setIfInBounds_ne (Ne.symm hio)] at hy
                  exact h1 i x y hx hy
          obtain ⟨q1, q2⟩ := hset cs x.cells.toList 0 cells cv (by simpa using hsz) hl hr (fun i x u hx hu => hrel i x u hx (by simpa using hu)) 0
          obtain ⟨rv, hfill, hrl, hrr⟩ := ih vs _ res _ h (by simpa using q1) (fun i d v hd hv => q2 i d v (by simpa using hd) hv) (by simpa using hlen)
            (fun j p v h1 h2 => hp (j + 1) p v (by simpa using h1) (by simpa using h2))
          refine ⟨rv, ?_, hrl, hrr⟩
          simp only [Instr.fill, hplace]
          rw [if_neg (by simp [hsz, hb.1]; omega)]
          rw [← hfill]
          congr 1
          rw [← Array.foldl_toList]
          simp
        · cases h
      · cases h

theorem foldl_size (off : Nat) : ∀ (l : List (Value × Nat)) (cv : Array Value), (l.foldl (fun cs (c, j) => cs.setIfInBounds (off + j) c) cv).size = cv.size
  | [], _ => rfl
  | x :: xs, cv => by rw [List.foldl_cons, foldl_size off xs]; simp

theorem fill_size {place : Nat → Option (Nat × Nat)} : ∀ (vs : List (Nat × Value)) (cv rv : Array Value), Instr.fill place cv vs = some rv → rv.size = cv.size := by
  intro vs
  induction vs with
  | nil => intro cv rv h; simp only [Instr.fill, Option.some.injEq] at h; rw [h]
  | cons v vs ih =>
    intro cv rv h
    obtain ⟨i, v⟩ := v
    simp only [Instr.fill] at h
    split at h
    · cases h
    · split at h
      · cases h
      · rw [ih _ _ h]
        rw [← Array.foldl_toList]
        exact foldl_size _ _ cv

section
variable {P : Program} {T : Tab} {w0 : Base} {w : World} {env : List D} {rt : RT} {own : Nat → Option Lab} {a : Act} {n : Nat} {o : Oper} {K : Res → Prop} {Kc : Act → World → Prop} {Q : Exit → Act → World → Prop}

theorem D.cells_ne {d : D} {cs : List D} (h : d.cells = some cs) (hd : ∀ ds, d = .agg ds → ds ≠ []) : cs ≠ [] := by
  unfold D.cells at h
  split at h
  · split at h
    · simp only [Option.some.injEq] at h; subst h; exact hd _ rfl
    · cases h
  · cases h
  · cases h
  · split at h
    · simp only [Option.some.injEq] at h; subst h; simp
    · cases h

theorem noEmpty_ne {parts : List (Nat × D)} (h : noEmpty parts = true) : ∀ p ∈ parts, ∀ ds, p.2 = .agg ds → ds ≠ [] := by
  intro p hp ds hd e
  have := List.all_eq_true.1 h p hp
  rw [hd, e] at this; simp at this

theorem parts_mt (hs : Sim w0 (fun i => env.getD i .undef) rt (fun i => a.tmps.getD i Go.undef) w own) (parts : Array (Nat × Operand)) (j : Nat) (p : Nat × D) (v : Nat × Value)
    (h1 : (parts.toList.map fun (i, x) => (i, evO env x))[j]? = some p) (h2 : ((parts.map fun (i, x) => (i, a.eval x)).toList)[j]? = some v) : p.1 = v.1 ∧ Mt w (okb w own) own rt p.2 v.2 := by
  simp only [List.getElem?_map, Option.map_eq_some_iff, Array.getElem?_toList] at h1
  obtain ⟨x, hx, rfl⟩ := h1
  simp only [Array.getElem?_toList, Array.getElem?_map, hx, Option.map_some, Option.some.injEq] at h2
  subst h2
  exact ⟨rfl, evO_mt hs x.2⟩

theorem mapM_places (P : Program) (g : Field → Nat × Nat) : ∀ (fs : List Field), (∀ f ∈ fs, ((P.info? f.type).map fun i => (f.offset, i.size)) = some (g f)) →
    fs.mapM (fun f => (P.info? f.type).map fun i => (f.offset, i.size)) = some (fs.map g)
  | [], _ => rfl
  | f :: fs, h => by
    rw [List.mapM_cons, h f (by simp), mapM_places P g fs (fun x hx => h x (by simp [hx]))]
    rfl

theorem build_sound (hT : TabOk P T) (hs : Sim w0 (fun i => env.getD i .undef) rt (fun i => a.tmps.getD i Go.undef) w own) (hg : Goal w0 env rt n a o.dst K Kc) (t : TypeId) (parts : Array (Nat × Operand))
    (ho : o.op = .build t parts) (h : buildK T t (parts.toList.map fun (i, x) => (i, evO env x)) K) : o.wp P a w Kc Q := by
  unfold buildK at h
  have h1 := chk_and h; clear h; obtain ⟨hct, h⟩ := h1
  obtain ⟨it, d, hi, hu, hsz, _, hz, htd⟩ := hT.info (nz hct)
  split at h
  · rename_i fs hfs
    rw [hfs] at htd
    obtain ⟨fa, rfl, rfl⟩ := Ty.ofDesc_struct htd.symm
    split at h
    · rename_i cs hcs
      have h1 := chk_and h; clear h; obtain ⟨hall, h⟩ := h1
      simp only [Bool.and_eq_true] at hall
      have hall1 := List.all_eq_true.1 hall.1
      have hall2 := noEmpty_ne hall.2
      have hsize : ∀ f ∈ fa.toList, (T.get f.type).size ≠ 0 := fun f hf => nz (hall1 (f.offset, f.type) (List.mem_map.2 ⟨f, hf, rfl⟩))
      have hzm := zeroCells_mt (w := w) (ok := okb w own) (T.get t).zero
      let place : Nat → Option (Nat × Nat) := fun i => (fa.toList.map fun f => (f.offset, (T.get f.type).size)).toArray[i]?
      obtain ⟨rv, hfill, hrl, hrr⟩ := fill_ok (R := fun d v => Mt w (okb w own) own rt d v) (T := T) (place := place) (fs := fa.toList.map fun f => (f.offset, f.type))
        (fun i off ty hf _ => by
          simp only [List.getElem?_map, Option.map_eq_some_iff, Array.getElem?_toList] at hf
          obtain ⟨f, hf, he⟩ := hf
          cases he
          simp [place, hf])
        _ ((parts.map fun (i, x) => (i, a.eval x)).toList) _ cs (T.get t).zero.cells hcs hzm.1 (fun i d v h1 h2 => .sh _ _ (hzm.2 i d v h1 h2).1) (by simp)
        (fun j p v h1 h2 => by
          obtain ⟨e1, e2⟩ := parts_mt hs parts j p v h1 h2
          refine ⟨e1, fun cs hc => ?_⟩
          obtain ⟨k1, k2, _⟩ := e2.cells hc
          exact ⟨D.cells_ne hc (hall2 p (List.mem_of_getElem? h1)), k1, k2⟩)
      refine quiet_sound hs hg h (v := .agg rv) (.agg _ _ hrl hrr) ?_
      have hm := mapM_places P (fun f => (f.offset, (T.get f.type).size)) fa.toList (fun f hf => by
        obtain ⟨i2, d2, h2, _, h3, _⟩ := hT.info (hsize f hf)
        simp [h2, h3])
      have hb : P.built t (parts.map fun (i, x) => (i, a.eval x)).toList = some rv := by
        unfold Program.built
        simp only [hi, hu, hz, hm]
        rw [← hfill]
      have := run_build (P := P) w t _ rv hb
      simp [execOp, ho, this]
    · exact h.elim
  · exact h.elim

theorem buildSlice_sound (hT : TabOk P T) (hs : Sim w0 (fun i => env.getD i .undef) rt (fun i => a.tmps.getD i Go.undef) w own) (hn : rt n = none) (hg : Goal w0 env rt n a o.dst K Kc) (t : TypeId) (len : Nat) (parts : Array (Nat × Operand))
    (ho : o.op = .buildSlice t len parts) (h : buildSliceK T rt n t len (parts.toList.map fun (i, x) => (i, evO env x)) K) : o.wp P a w Kc Q := by
  unfold buildSliceK at h
  have h1 := chk_and h; clear h; obtain ⟨hct, h⟩ := h1
  obtain ⟨it, d, hi, hu, _, _, _, htd⟩ := hT.info (nz hct)
  split at h
  · rename_i e hty
    have h1 := chk_and h; clear h; obtain ⟨hes, h⟩ := h1
    simp only [Bool.and_eq_true, Nat.ble_eq] at hes
    rw [hty] at htd
    have := Ty.ofDesc_slice htd.symm; subst this
    obtain ⟨ie, de, hie, _, hsz, hby, hze, _⟩ := hT.info (nz hes.1)
    have run : ∀ cells, Instr.fill (fun i => some (i * ie.size, ie.size)) (madeCells (T.get e).zero.cells (len * ie.size)) ((parts.map fun (i, x) => (i, a.eval x)).toList) = some cells →
        (execOp a.eval o).run P w = .ok (.value (.slice (some ⟨w.heap.size, 0, none⟩) len len)) (w.alloc (.cells cells e)) := fun cells hf => by
      have hle : ¬ (16777216 < len * ie.size) := by rw [hsz]; omega
      simp only [Array.toList_map] at hf
      by_cases hz0 : len * ie.size = 0
      · simp only [hz0, madeCells, Array.range_zero', Array.map_empty] at hf
        simp [execOp, ho, Instr.buildSlice, run_underlying hu, sizeOf, typeInfo, hie, hz0, newRow, Array.range_zero', hf]
      · simp only [madeCells] at hf
        simp [execOp, ho, Instr.buildSlice, run_underlying hu, sizeOf, typeInfo, zeroValue, hze, hie, hz0, hle, newRow, hf]
    split at h
    · rename_i r p sz off m hpp
      have hq := oneRef_eq hpp; clear hpp; obtain ⟨rfl, hpp⟩ := hq
      have h1 := chk_and h; clear h; obtain ⟨hc2, h⟩ := h1
      simp only [Bool.and_eq_true, Nat.beq_eq] at hc2
      obtain ⟨l⟩ := parts
      obtain ⟨⟨i0, x⟩, rfl, hp0⟩ := List.map_eq_singleton_iff.1 hpp
      · simp only [Prod.mk.injEq] at hp0
        obtain ⟨hi0, hxe⟩ := hp0
        subst hi0
        have hx := evO_mt hs x
        rw [hxe] at hx
        split at h
        · rename_i R hR
          have h1 := chk_and h; clear h; obtain ⟨hbox, h⟩ := h1
          obtain ⟨hm, h⟩ := h
          have hro := hx.ref_inv.2 R hR
          have h1v := hx.one rfl
          have hcl := oneCell_cells h1v
          obtain ⟨u, hmu⟩ : ∃ u, madeCells (T.get e).zero.cells (1 * ie.size) = #[u] := Array.size_eq_one_iff.1 (by rw [size_madeCells, hsz, hc2.1])
          have hr := run #[a.eval x] (by
            rw [hmu, hsz, hc2.1]
            have e1 : ((#[(0, x)] : Array (Nat × Operand)).map fun (i, x) => (i, a.eval x)).toList = [(0, a.eval x)] := by simp
            rw [e1]
            simp only [Instr.fill, hcl]
            rfl)
          refine wp_value hr (hg _ _ _ (ownAdopt own w.heap.size r n) h ?_ ?_)
          · simp only [applyRes, wrRT, newRT_one]
            exact hs.adopt hR (by simpa using hbox) hn (nz hc2.2) hm hro
          · simp only [applyRes, wrRT, newRT_one]
            exact .ref _ _ _ _ _ _ (by simp) rfl (fun _ _ => ⟨.inl rfl, .inl ⟨w.heap.size, #[a.eval x], e, 1, 0, by simp [ownAdopt], heap_alloc_new w _, rfl, Nat.le_refl _, rfl, by simp⟩⟩)
        · exact h.elim
    · split at h
      · rename_i cs hcs
        have h1 := chk_and h; clear h; obtain ⟨hall, h⟩ := h1
        rw [forceSz_eq, forceL_eq] at h
        simp only [Bool.and_eq_true, Nat.beq_eq] at hall
        have hpl := List.all_eq_true.1 hall.1.1
        have hne := noEmpty_ne hall.2
        have hzm := zeroCells_mt (w := w) (ok := okb w own) (T.get e).zero
        have hzs : (T.get e).zero.cells.size = (T.get e).size := by rw [hzm.1]; exact hall.1.2
        obtain ⟨rv, hfill, hrl, hrr⟩ := fill_ok (R := fun d v => Mt w (okb w own) own rt d v) (T := T) (place := fun i => some (i * ie.size, ie.size)) (fs := (List.range len).map fun i => (i * (T.get e).size, e))
          (fun i off ty hf _ => by
            simp only [List.getElem?_map, Option.map_eq_some_iff] at hf
            obtain ⟨j, hj, he⟩ := hf
            cases he
            have : j = i := by
              have h1 := List.getElem?_eq_some_iff.1 hj
              simpa using h1.2.symm
            rw [this, hsz])
          _ ((parts.map fun (i, x) => (i, a.eval x)).toList) _ cs (madeCells (T.get e).zero.cells (len * ie.size)) hcs (by rw [size_madeCells, replN_length, hall.1.2, hsz])
          (fun i d v h1 h2 => by
            have hi : i < len * (T.get e).size := by
              have := (List.getElem?_eq_some_iff.1 h1).1
              simp only [replN_length] at this; rwa [hall.1.2] at this
            have hp : 0 < (T.get e).zero.cells.size := by rw [hzs]; have := nz hes.1; omega
            rw [madeCells_get _ _ _ (by rw [hsz]; omega) hp] at h2
            rw [replN_eq, getElem?_replicate_flatten _ _ _ (by rw [hall.1.2]; exact hi)] at h1
            rw [hzm.1] at h2
            exact .sh _ _ (hzm.2 _ d v h1 h2).1) (by simp)
          (fun j p v h1 h2 => by
            obtain ⟨e1, e2⟩ := parts_mt hs parts j p v h1 h2
            refine ⟨e1, fun cs hc => ?_⟩
            obtain ⟨k1, k2, _⟩ := e2.cells hc
            exact ⟨D.cells_ne hc (hne p (List.mem_of_getElem? h1)), k1, k2⟩)
        have hcl : cs.length = len * (T.get e).size := by
          rw [← hrl, fill_size _ _ _ hfill, size_madeCells, hsz]
        refine wp_value (run rv hfill) (hg _ _ _ (ownSet own w.heap.size (n, [])) h ?_ ?_)
        · rw [applyRes_one]
          refine hs.newRoot n hn _ e ⟨false, (T.get e).size, cs⟩ (by rw [hrl]; exact Nat.le_refl _) (fun i d v h1 h2 => ⟨fun h => (by cases h), fun _ => ?_⟩)
          have hm := hrr i d v h1 h2
          have hp := hpl d (List.mem_of_getElem? h1)
          cases d <;> simp [D.plainLit] at hp
          · rw [hm.kb_inv]; exact ⟨rfl, .kb _⟩
          · rw [hm.lit_inv]; exact ⟨rfl, .lit _⟩
        · rw [applyRes_one]
          exact Sim.newRef n _ e _ _ _ _ (Nat.le_refl _) (by rw [hrl, hcl])
      · exact h.elim
  · exact h.elim

end
end Go.Vm
