/- The evaluator is sound: append, copy (the end). -/
import Derived.Test.YtnonhialafcjmaaVm13
set_option linter.unusedVariables false
set_option linter.unusedSimpArgs false
set_option linter.unusedSectionVars false
namespace Go.Vm
open Go Go.RowKit

/-- A root that is a nil slice. -/
theorem Sim.nilRoot {w0 : Base} {w : World} {env : Nat → D} {rt rt' : RT} {tm : Nat → Value} {own : Nat → Option Lab} (hs : Sim w0 env rt tm w own) (nr sz : Nat) (hnr : rt nr = none)
    (hrt : ∀ r, r ≠ nr → rt' r = rt r ∨ (rt r = none ∧ rt' r = some none)) (hnew : rt' nr = some (some ⟨false, sz, []⟩)) : Sim w0 env rt' tm w own := by
  have hno : ∀ b p, own b ≠ some (nr, p) := fun b p h => by obtain ⟨_, _, R, hR⟩ := hs.lab b nr p h; rw [hnr] at hR; cases hR
  have hk : ∀ r R, rt r = some (some R) → rt' r = some (some R) := fun r R h => by
    have hne : r ≠ nr := fun e => by rw [e, hnr] at h; cases h
    rcases hrt r hne with h1 | ⟨h1, _⟩
    · rw [h1]; exact h
    · rw [h1] at h; cases h
  have hfr : Fr w (okb w own) own rt w (okb w own) own rt' := by
    refine ⟨fun b h => ⟨h, rfl⟩, fun r h => ?_, fun r R' h0 h => ?_, fun _ _ _ _ _ _ _ _ => Iff.rfl, fun r R R' p h0 h1 hp => by
      have := hk r R h0; rw [h1] at this; cases this; exact hp, fun r R' b p arr e _ _ _ h => ⟨arr, h, rfl⟩⟩
    · by_cases hne : r = nr
      · rw [hne, hnew]; simp
      · rcases hrt r hne with h1 | ⟨h1, _⟩
        · rw [h1]; exact h
        · exact absurd h1 h
    · have hne : r ≠ nr := fun e => by rw [e, hnr] at h0; exact h0 rfl
      rcases hrt r hne with h1 | ⟨h1, _⟩
      · exact ⟨R', by rw [← h1]; exact h⟩
      · exact absurd h1 h0
  refine hs.change hfr hs.below (fun r R h => ?_) (fun b r p h => ?_) hs.inj
  · by_cases hne : r = nr
    · subst hne; rw [hnew] at h; cases h
      exact .inr ⟨rfl, rfl, fun b => hno b []⟩
    · rcases hrt r hne with h1 | ⟨_, h2⟩
      · rw [h1] at h
        exact (hs.roots r R h).frame hfr (fun b p hp => ⟨hp, rfl⟩) (fun b p hp => hp)
      · rw [h2] at h; cases h
  · obtain ⟨h1, h2, R, hR⟩ := hs.lab b r p h
    exact ⟨h1, h2, R, hk r R hR⟩

section
variable {P : Program} {T : Tab} {w0 : Base} {w : World} {env : List D} {rt : RT} {own : Nat → Option Lab} {a : Act} {n : Nat} {o : Oper} {K : Res → Prop} {Kc : Act → World → Prop} {Q : Exit → Act → World → Prop}

/-- From what an append comes to, to the new state. -/
theorem appended_sim {tm : Nat → Value} {envf : Nat → D} (hs : Sim w0 envf rt tm w own) {sv xv v' : Value} {w' : World} {m0 m sz nr : Nat} {r0 : Option Nat} {r : Nat} {R : Root} {xs nv : List Value} {news : List D} {c : Option Nat} {bytes : Nat}
    (hap : Appended w sv m0 m sz xs nv v' w') (hx : SrcOk w own rt sz r0 xv m news c nv) (_hz : sz ≠ 0) (hnr : rt nr = none) (hrnr : r ≠ nr)
    (hr0 : r0 = some r ∧ rt r = some (some R) ∧ R.box = false ∨ rt r = none ∧ R = ⟨false, sz, []⟩) (hm0 : m0 * sz = R.cs.length)
    (hsv : (sv = .slice none 0 0 ∧ m0 = 0 ∧ xs = []) ∨ ∃ g cap cur e', sv = .slice (some ⟨g, 0, none⟩) m0 cap ∧ w.heap[g]? = some (.cells cur e' (0, 0)) ∧ own g = some (r, []) ∧ m0 ≤ cap ∧ cap * sz = cur.size ∧ xs.length = m0 * sz ∧
      (∀ (j : Nat) (u : Value), xs[j]? = some u → cur[j]? = some u) ∧ (∀ (j : Nat) (d : D) (v : Value), R.cs[j]? = some d → cur[j]? = some v → Tr w (okb w own) own (r, [j]) d v))
    (_hb : roomOk (m0 + m) bytes) :
    ∃ own', Sim w0 envf (fun q => if q = nr then some (some ⟨false, sz, R.cs ++ news⟩) else if q = r ∨ c = some q then some none else rt q) tm w' own' ∧
      RefOk w' own' nr [] sz 0 (m0 + m) v' := by
  have hcond : ∀ q, (q = r ∨ (c.isSome = true ∧ q = c.getD 0 ∧ rt q ≠ none)) ↔ (q = r ∨ c = some q) := by
    intro q
    constructor
    · rintro (h | ⟨h1, h2, _⟩)
      · exact .inl h
      · right; obtain ⟨c', rfl⟩ := Option.isSome_iff_exists.1 h1; simp at h2; rw [h2]
    · rintro (h | h)
      · exact .inl h
      · right
        obtain ⟨_, R', hR'⟩ := hx.cons q h
        rw [h]; exact ⟨rfl, rfl, by rw [hR']; simp⟩
  have hfun : (fun q => if q = nr then some (some (⟨false, sz, R.cs ++ news⟩ : Root)) else if q = r ∨ (c.isSome = true ∧ q = c.getD 0 ∧ rt q ≠ none) then some none else rt q) =
      (fun q => if q = nr then some (some ⟨false, sz, R.cs ++ news⟩) else if q = r ∨ c = some q then some none else rt q) := by
    funext q; simp only [hcond q]
  have hcr : c.isSome = true → c.getD 0 ≠ r := fun h => by
    obtain ⟨c', rfl⟩ := Option.isSome_iff_exists.1 h
    obtain ⟨h1, R', hR'⟩ := hx.cons c' rfl
    simp only [Option.getD_some]
    rcases hr0 with ⟨h2, _⟩ | ⟨h2, _⟩
    · intro e; rw [e, h2] at h1; exact h1 rfl
    · intro e; rw [e, h2] at hR'; cases hR'
  have hxsl : xs.length = R.cs.length := by
    rcases hsv with ⟨_, h1, h2⟩ | ⟨_, _, _, _, _, _, _, _, _, h1, _⟩
    · rw [h2, ← hm0, h1]; simp
    · rw [h1, hm0]
  have hxsT : ∀ (i : Nat) d v, R.cs[i]? = some d → xs[i]? = some v → Tr w (okb w own) own (r, [i]) d v := fun i d v h1 h2 => by
    rcases hsv with ⟨_, _, h3⟩ | ⟨_, _, _, _, _, _, _, _, _, _, h3, h4⟩
    · rw [h3] at h2; simp at h2
    · exact h4 i d v h1 (h3 i v h2)
  have hrel : ∀ (j : Nat) d v, news[j]? = some d → nv[j]? = some v → if c.isSome then Tr w (okb w own) own (c.getD 0, [j]) d v else d.notOwn = true ∧ Sh w (okb w own) d v := fun j d v h1 h2 => by
    have := hx.rel j d v h1 h2
    cases c with
    | none => simpa using this
    | some c => simpa using this
  cases hap with
  | room g cap cur e' h1 h2 h3 h4 =>
    rcases hsv with ⟨h5, _⟩ | ⟨g', cap', cur', e'', h5, h6, h7, h8, h9, h10, h11, h12⟩
    · rw [h1] at h5; cases h5
    · rw [h1] at h5; cases h5
      rw [h2] at h6; cases h6
      have hnvl : nv.length = m * sz := by
        rcases hx.val with ⟨_, e1, e2⟩ | ⟨_, _, _, e1, _⟩
        · rw [e1, e2]; simp
        · exact e1
      have hfit : m0 * sz + nv.length ≤ cur.size := by rw [hnvl, ← h4, ← Nat.add_mul]; exact Nat.mul_le_mul_right _ h3
      have hxs' : xs = cur.toList.take (m0 * sz) := by
        apply List.ext_getElem?
        intro j
        by_cases hj : j < m0 * sz
        · have hj2 : j < xs.length := by omega
          rw [List.getElem?_take, if_pos hj, List.getElem?_eq_getElem hj2, Array.getElem?_toList]
          exact (h11 j _ (List.getElem?_eq_getElem hj2)).symm
        · rw [List.getElem?_eq_none (by omega), List.getElem?_eq_none (by rw [List.length_take]; omega)]
      have hg : Grew w (w.setRow g (cur.toList.take (m0 * sz) ++ nv ++ cur.toList.drop (m0 * sz + nv.length)).toArray) (some g) g true :=
        ⟨fun b _ hb => setRow_other w g b _ hb, by simp, by simp, rfl, rfl, rfl⟩
      obtain ⟨own', hsim, hlab⟩ := hs.append (r0 := r) (r2 := c.getD 0) (nr := nr) (cons := c.isSome) (inp := true) (R0 := R) (g := some g) (sz := sz) (newsD := news) (xs := xs) (news := nv)
        hnr hcr (fun b hb => by cases hb; exact h7) hg (setRow_heap w g cur _ e' _ h2)
        (by have := hx.len; rw [List.size_toArray, List.length_append, List.length_append, List.length_take, List.length_drop, Array.length_toList (xs := cur), ← hm0]; omega) hxsl
        (fun i hi => by
          rw [List.getElem?_toArray, List.append_assoc, List.getElem?_append_left (by rw [← hxs']; exact hi), hxs'])
        (fun j hj => by
          rw [List.getElem?_toArray, List.append_assoc, ← hxs', List.getElem?_append_right (by omega), Nat.add_sub_cancel_left, List.getElem?_append_left hj])
        hx.len hxsT hrel
      rw [hfun] at hsim
      refine ⟨own', hsim, .inl ⟨g, _, e', cap, 0, hlab, setRow_heap w g cur _ e' _ h2, rfl, h3, ?_, by simp⟩⟩
      rw [List.size_toArray, List.length_append, List.length_append, List.length_take, List.length_drop, Array.length_toList, Nat.zero_add, h4]
      omega
  | grown cap arr e' h3 h4 h5 =>
    obtain ⟨rest, h5⟩ := h5
    have hg : Grew w (w.drew.alloc (.cells arr e')) none w.heap.size false :=
      ⟨fun b hb _ => heap_alloc_old w.drew _ hb, by simp, by simp, rfl, rfl, rfl⟩
    have hheap : (w.drew.alloc (.cells arr e')).heap[w.heap.size]? = some (.cells arr e' (0, 0)) := heap_alloc_new w.drew _
    have hget : ∀ i, arr[i]? = (xs ++ nv ++ rest)[i]? := fun i => by rw [← h5, Array.getElem?_toList]
    obtain ⟨own', hsim, hlab⟩ := hs.append (r0 := r) (r2 := c.getD 0) (nr := nr) (cons := c.isSome) (inp := false) (R0 := R) (g := none) (sz := sz) (newsD := news) (xs := xs) (news := nv)
      hnr hcr (fun b hb => by cases hb) hg hheap
      (by have := congrArg List.length h5; simp only [Array.length_toList, List.length_append] at this; rw [this, ← hxsl, ← hx.len]; omega) hxsl
      (fun i hi => by rw [hget, List.append_assoc, List.getElem?_append_left hi])
      (fun j hj => by rw [hget, List.append_assoc, List.getElem?_append_right (by omega), Nat.add_sub_cancel_left, List.getElem?_append_left hj])
      hx.len hxsT hrel
    rw [hfun] at hsim
    exact ⟨own', hsim, .inl ⟨w.heap.size, _, e', cap, 0, hlab, hheap, rfl, h3, by simpa using h4, by simp⟩⟩
  | nothing cap base h1 h2 =>
    subst h2
    have hnil : nv = [] := by
      rcases hx.val with ⟨_, _, e2⟩ | ⟨_, _, _, e1, _⟩
      · exact e2
      · exact List.eq_nil_of_length_eq_zero (by rw [e1]; simp)
    have hnews : news = [] := List.eq_nil_of_length_eq_zero (by rw [← hx.len, hnil]; rfl)
    rcases hsv with ⟨h5, h6, h7⟩ | ⟨g', cap', cur', e'', h5, h6, h7, h8, h9, h10, h11, h12⟩
    · rw [h1] at h5
      cases h5
      have hcs : R.cs = [] := List.eq_nil_of_length_eq_zero (by rw [← hm0]; simp)
      have hk := hs.kill r
      obtain ⟨own2, rt2, hk2, hrt2, hno⟩ : ∃ own2 rt2, Sim w0 envf rt2 tm w own2 ∧ (∀ q, q ≠ nr → rt2 q = if q = r ∨ c = some q then some none else rt q) ∧ rt2 nr = none := by
        cases hc : c with
        | none =>
          refine ⟨_, _, hk, fun q _ => ?_, by rw [RT.set_ne _ _ (Ne.symm hrnr)]; exact hnr⟩
          unfold RT.set; split
          · rw [if_pos (by simp [*])]
          · rw [if_neg (by simp [*])]
        | some c' =>
          obtain ⟨hc1, R', hR'⟩ := hx.cons c' hc
          have hcn : nr ≠ c' := fun e => by rw [← e, hnr] at hR'; cases hR'
          refine ⟨_, _, hk.kill c', fun q _ => ?_, by rw [RT.set_ne _ _ hcn, RT.set_ne _ _ (Ne.symm hrnr)]; exact hnr⟩
          unfold RT.set; split
          · rw [if_pos (by simp [*])]
          · split
            · rw [if_pos (by simp [*])]
            · rename_i e1 e2
              rw [if_neg (by rintro (e3 | e3)
                             · exact e2 e3
                             · cases e3; exact e1 rfl)]
      refine ⟨own2, hk2.nilRoot nr sz hno (fun q hq => .inl ?_) (by simp [hcs, hnews]), .inr ⟨rfl, rfl, rfl, fun b hb => ?_⟩⟩
      · rw [hrt2 q hq]; simp only [if_neg hq]
      · obtain ⟨_, _, R', hR'⟩ := hk2.lab b nr [] hb; rw [hno] at hR'; cases hR'
    · rw [h1] at h5; cases h5
      have hg : Grew w w (some g') g' true := ⟨fun b _ _ => rfl, Nat.le_refl _, by simp, rfl, rfl, rfl⟩
      obtain ⟨own', hsim, hlab⟩ := hs.append (r0 := r) (r2 := c.getD 0) (nr := nr) (cons := c.isSome) (inp := true) (R0 := R) (g := some g') (sz := sz) (newsD := news) (xs := xs) (news := nv)
        hnr hcr (fun b hb => by cases hb; exact h7) hg h6
        (by rw [hnews, ← hm0, ← h9]; simp; exact Nat.mul_le_mul_right _ h8) hxsl
        (fun i hi => by rw [List.getElem?_eq_getElem hi]; exact h11 i _ (List.getElem?_eq_getElem hi))
        (fun j hj => by rw [hnil] at hj; simp at hj) hx.len hxsT hrel
      rw [hfun] at hsim
      exact ⟨own', hsim, .inl ⟨g', _, _, cap, 0, hlab, h6, rfl, h8, by simpa using h9, by simp⟩⟩

theorem append_sound (hT : TabOk P T) (hs : Sim w0 (fun i => env.getD i .undef) rt (fun i => a.tmps.getD i Go.undef) w own) (hn : ∀ res, K res → ∀ r, n ≤ r → r < n + res.new.length → rt r = none) (hg : Goal w0 env rt n a o.dst K Kc)
    (t t' : TypeId) (s x : Operand) (ho : o.op = .call { callee := .builtin .append, args := #[s, x], argTypes := #[t, t'] }) (h : appendK T rt n t t' (evO env s) (evO env x) K) : o.wp P a w Kc Q := by
  have hsm := evO_mt hs s
  unfold appendK at h
  have h1 := chk_and h; clear h; obtain ⟨hct, h⟩ := h1
  simp only [Bool.and_eq_true, Nat.beq_eq] at hct
  obtain ⟨rfl, hct⟩ := hct
  obtain ⟨it, d, hi, hu, _, _, _, htd⟩ := hT.info (nz hct)
  split at h
  · rename_i e hty
    have h1 := chk_and h; clear h; obtain ⟨hes, h⟩ := h1
    simp only [Bool.and_eq_true, Nat.beq_eq] at hes
    rw [hty] at htd
    have := Ty.ofDesc_slice htd.symm; subst this
    obtain ⟨ie, de, hie, _, hsz, hby, hze, _⟩ := hT.info (nz hes.1)
    have hzm := zeroCells_mt (w := w) (ok := okb w own) (T.get e).zero
    have hzs : (T.get e).zero.cells.size = ie.size := by rw [hzm.1, hsz]; exact hes.2
    have run : ∀ v' w', (Builtin.append_ #[t, t] o.type #[a.eval s, a.eval x]).run P w = .ok v' w' → (execOp a.eval o).run P w = .ok (.value v') w' := fun v' w' hr => by
      simp [execOp, ho, resolve, invoke, builtin, hr]
    split at h
    · rename_i hse
      rw [hse] at hsm
      have hsv := hsm.lit_inv
      obtain ⟨m, news, c, rd, nv, ⟨hroom, hk⟩, hsrc⟩ := src_sound (own := own) hs hsz.symm h
      rw [forceSz_eq, ← hsz] at hk
      have hfresh := hn _ hk
      simp only [List.length_cons, List.length_nil] at hfresh
      have hn0 : rt n = none := hfresh n (Nat.le_refl _) (by omega)
      have hn1 : rt (n + 1) = none := hfresh (n + 1) (by omega) (by omega)
      obtain ⟨v', w', hr, hap⟩ := run_append_vm (P := P) t o.type e ie _ hu hie hze hzs (a.eval s) (a.eval x) 0 m none [] nv news c hsrc (.inl ⟨hsv, rfl, rfl⟩) (by rw [Nat.zero_add, hby]; exact hroom)
      obtain ⟨own', hsim, href⟩ := appended_sim (r := n) (R := ⟨false, ie.size, []⟩) (bytes := ie.bytes) hs hap hsrc (by rw [hsz]; exact nz hes.1) hn1 (by omega) (.inr ⟨hn0, rfl⟩) (by simp) (.inl ⟨hsv, rfl, rfl⟩) (by rw [Nat.zero_add, hby]; exact hroom)
      have hrt : applyRes rt n { val := .ref (n + 1) [] ie.size 0 m, new := [none, some ⟨false, ie.size, news⟩], wr := c.toList.map (·, none), rd := rd } =
          (fun q => if q = n + 1 then some (some (⟨false, ie.size, [] ++ news⟩ : Root)) else if q = n ∨ c = some q then some none else rt q) := by
        funext q
        have hw : ∀ q, wrRT rt (c.toList.map (·, none)) q = if c = some q then some none else rt q := fun q => by
          cases c with
          | none => simp [wrRT]
          | some c' => simp only [Option.toList_some, List.map_cons, List.map_nil, wrRT, RT.set, Option.some.injEq]; by_cases hq : q = c' <;> simp [hq, eq_comm]
        simp only [applyRes, newRT, List.length_cons, List.length_nil, hw]
        by_cases h1 : q = n + 1
        · subst h1; rw [if_pos (by omega)]; simp
        · by_cases h2 : q = n
          · subst h2; rw [if_pos (by omega)]; simp
          · rw [if_neg (by omega), if_neg h1]; simp [h2]
      refine wp_value (run v' w' hr) (hg _ v' w' own' hk ?_ ?_)
      · rw [hrt]; exact hsim
      · rw [hrt]
        refine .ref _ _ _ _ _ _ (by simp) ?_ (fun _ _ => ⟨.inl rfl, by simpa using href⟩)
        rcases href with ⟨_, _, _, _, _, _, _, e, _⟩ | ⟨e, _⟩ <;> rw [e] <;> rfl
    · rename_i r p sz off m0 hse
      have h1 := chk_and h; clear h; obtain ⟨hes2, h⟩ := h1
      obtain ⟨hsz2, hz⟩ := elemIs_eq hes2
      rw [hse] at hsm
      split at h
      · rename_i R hR
        have h1 := chk_and h; clear h; obtain ⟨hbox, h⟩ := h1
        simp only [Bool.not_eq_true'] at hbox
        obtain ⟨hm0, h⟩ := h
        obtain ⟨m, news, c, rd, nv, ⟨hroom, cs', hcs', hk⟩, hsrc⟩ := src_sound (own := own) hs hsz2 h
        have hfresh := hn _ hk
        simp only [List.length_cons, List.length_nil] at hfresh
        have hn0 : rt n = none := hfresh n (Nat.le_refl _) (by omega)
        have hsze : ie.size = sz := by rw [hsz]; exact hsz2
        have hro := hsm.ref_inv.2 R hR
        obtain ⟨xs, hsv1, hsv2⟩ : ∃ xs, ((a.eval s = .slice none 0 0 ∧ m0 = 0 ∧ xs = []) ∨ ∃ g cap cur e', a.eval s = .slice (some ⟨g, 0, none⟩) m0 cap ∧ w.heap[g]? = some (.cells cur e' (0, 0)) ∧ m0 ≤ cap ∧ cap * sz = cur.size ∧ xs.length = m0 * sz ∧ (∀ (j : Nat) (u : Value), xs[j]? = some u → cur[j]? = some u)) ∧
            ((a.eval s = .slice none 0 0 ∧ m0 = 0 ∧ xs = []) ∨ ∃ g cap cur e', a.eval s = .slice (some ⟨g, 0, none⟩) m0 cap ∧ w.heap[g]? = some (.cells cur e' (0, 0)) ∧ own g = some (r, []) ∧ m0 ≤ cap ∧ cap * sz = cur.size ∧ xs.length = m0 * sz ∧
              (∀ (j : Nat) (u : Value), xs[j]? = some u → cur[j]? = some u) ∧ (∀ (j : Nat) (d : D) (v : Value), R.cs[j]? = some d → cur[j]? = some v → Tr w (okb w own) own (r, [j]) d v)) := by
          rcases hro with ⟨b, arr, e', cap, q, hb, hw, hv, hnc, hcs, hq⟩ | ⟨hv, _, hm, _⟩
          · have hq' := hq (.inl rfl)
            simp only [Nat.zero_mul] at hq'; subst hq'
            simp only [Nat.zero_add] at hcs
            rcases hs.roots r R hR with ⟨b', arr', e'', k1, k2, k3, k4⟩ | ⟨_, _, k3⟩
            · have hbb := hs.inj b' b _ k1 hb
              subst hbb
              rw [hw] at k2; cases k2
              have hxl : (arr.toList.take (m0 * sz)).length = m0 * sz := by
                rw [List.length_take, Array.length_toList]; omega
              have hxg : ∀ (j : Nat) (u : Value), (arr.toList.take (m0 * sz))[j]? = some u → arr[j]? = some u := fun j u hj => by
                rw [List.getElem?_take] at hj
                split at hj
                · simpa using hj
                · cases hj
              exact ⟨_, .inr ⟨b', cap, arr, e', hv, hw, hnc, hcs, hxl, hxg⟩, .inr ⟨b', cap, arr, e', hv, hw, hb, hnc, hcs, hxl, hxg, fun j d v h1 h2 => by
                have := k4 j d v h1 h2
                unfold CellOk at this; rw [hbox] at this; simpa using this⟩⟩
            · exact absurd hb (k3 b)
          · exact ⟨[], .inl ⟨hv, hm, rfl⟩, .inl ⟨hv, hm, rfl⟩⟩
        obtain ⟨v', w', hr, hap⟩ := run_append_vm (P := P) t o.type e ie _ hu hie hze hzs (a.eval s) (a.eval x) m0 m (some r) xs nv news c (by rw [hsze]; exact hsrc) (by rw [hsze]; exact hsv1) (by rw [hby]; exact hroom)
        rw [hsze] at hap
        have hrn : r ≠ n := fun e1 => by rw [e1, hn0] at hR; cases hR
        obtain ⟨own', hsim, href⟩ := appended_sim (r := r) (R := R) (bytes := ie.bytes) hs hap hsrc hz hn0 hrn (.inl ⟨rfl, hR, hbox⟩) hm0 hsv2 (by rw [hby]; exact hroom)
        rw [hcs'] at hsim
        have hrt : applyRes rt n { val := .ref n [] sz 0 (m0 + m), new := [some ⟨false, sz, cs'⟩], wr := (r, none) :: c.toList.map (·, none), rd := r :: rd } =
            (fun q => if q = n then some (some (⟨false, sz, cs'⟩ : Root)) else if q = r ∨ c = some q then some none else rt q) := by
          funext q
          have hw : ∀ (rt : RT) q, wrRT rt (c.toList.map (·, none)) q = if c = some q then some none else rt q := fun rt q => by
            cases c with
            | none => simp [wrRT]
            | some c' => simp only [Option.toList_some, List.map_cons, List.map_nil, wrRT, RT.set, Option.some.injEq]; by_cases hq : q = c' <;> simp [hq, eq_comm]
          simp only [applyRes, newRT_one, wrRT]
          unfold RT.set
          by_cases h1 : q = n
          · simp [h1]
          · rw [if_neg h1, if_neg h1]
            have := hw (RT.set rt r none) q
            unfold RT.set at this
            rw [this]
            by_cases h2 : q = r <;> by_cases h3 : c = some q <;> simp [h2, h3]
        refine wp_value (run v' w' hr) (hg _ v' w' own' hk ?_ ?_)
        · rw [hrt]; exact hsim
        · rw [hrt]
          refine .ref _ _ _ _ _ _ (by simp) ?_ (fun _ _ => ⟨.inl rfl, href⟩)
          rcases href with ⟨_, _, _, _, _, _, _, e, _⟩ | ⟨e, _⟩ <;> rw [e] <;> rfl
      · exact h.elim
    · exact h.elim
  · exact h.elim

end
end Go.Vm
