/- The evaluator is sound: append and copy. -/
import Derived.Test.YtnonhialafcjmaaVm12
set_option linter.unusedVariables false
set_option linter.unusedSimpArgs false
set_option linter.unusedSectionVars false
namespace Go.Vm
open Go Go.RowKit

section
variable {P : Program} {T : Tab} {w0 : Base} {w : World} {env : List D} {rt : RT} {own : Nat → Option Lab} {a : Act} {n : Nat} {o : Oper} {K : Res → Prop} {Kc : Act → World → Prop} {Q : Exit → Act → World → Prop}

structure SrcOk (w : World) (own : Nat → Option Lab) (rt : RT) (sz : Nat) (r0 : Option Nat) (x : Value) (m : Nat) (news : List D) (c : Option Nat) (nv : List Value) : Prop where
  len : nv.length = news.length
  rel : ∀ (j : Nat) d v, news[j]? = some d → nv[j]? = some v → match c with
    | none => d.notOwn = true ∧ Sh w (okb w own) d v
    | some r2 => Tr w (okb w own) own (r2, [j]) d v
  one : ∀ u ∈ nv, u.oneCell' = true
  val : (x = .slice none 0 0 ∧ m = 0 ∧ nv = []) ∨ ∃ (ad : Addr) (cap : Nat), x = .slice (some ad) m cap ∧ nv.length = m * sz ∧ ∀ j u, nv[j]? = some u → w.cell? (ad.add j) = some u
  cons : ∀ r2, c = some r2 → r0 ≠ some r2 ∧ ∃ R, rt r2 = some (some R)

theorem cellOk_and {d : D} (h : d.cellOk = true) : d.notOwn = true ∧ d.one = true := by simpa [D.cellOk] using h

theorem src_sound (hs : Sim w0 (fun i => env.getD i .undef) rt (fun i => a.tmps.getD i Go.undef) w own) {e : Nat} {r0 : Option Nat} {x : Operand} {K : Nat → List D → Option Nat → List Nat → Prop} {sz0 : Nat}
    (hez : (T.get e).size = sz0) (h : srcK T rt e r0 (evO env x) K) : ∃ m news c rd nv, K m news c rd ∧ SrcOk w own rt sz0 r0 (a.eval x) m news c nv := by
  have hx := evO_mt hs x
  unfold srcK at h
  split at h
  · rename_i hxe
    rw [hxe] at hx
    exact ⟨0, [], none, [], [], h, rfl, fun j d v h1 => by simp at h1, by simp, .inl ⟨hx.lit_inv, rfl, rfl⟩, by simp⟩
  · rename_i ob sz cs hxe
    have h1 := chk_and h; clear h; obtain ⟨hes, h⟩ := h1
    obtain ⟨hes, hz⟩ := elemIs_eq hes
    rw [hez] at hes; subst hes
    rw [hxe] at hx
    have hsh := hx.list_inv
    generalize hv : a.eval x = v at hsh
    cases hsh with
    | nil => exact ⟨_, _, _, _, [], h.2, rfl, fun j d v h1 => by simp at h1, by simp, .inl ⟨rfl, by simp [cnt_eq], rfl⟩, by simp⟩
    | wild _ _ ad => exact ⟨_, _, _, _, [], h.2, rfl, fun j d v h1 => by simp at h1, by simp, .inr ⟨ad, 0, by simp [cnt_eq], by simp [cnt_eq], fun j u hj => by simp at hj⟩, by simp⟩
    | list _ _ _ b off len cap hlen hlc hb hc hr =>
      let nv : List Value := (List.range cs.length).map fun j => (w.cell? ⟨b, off + j, none⟩).getD .nilFunc
      have hnv : ∀ j u, nv[j]? = some u → w.cell? ⟨b, off + j, none⟩ = some u ∧ j < cs.length := fun j u hj => by
        simp only [nv, List.getElem?_map, Option.map_eq_some_iff] at hj
        obtain ⟨k, hk, hj⟩ := hj
        have hk2 := List.getElem?_eq_some_iff.1 hk
        obtain ⟨hk3, hk4⟩ := hk2
        simp at hk3 hk4; subst hk4
        obtain ⟨u', hu'⟩ := Option.isSome_iff_exists.1 (hc j hk3)
        rw [hu'] at hj ⊢; simp at hj; exact ⟨by rw [hj], hk3⟩
      refine ⟨_, _, _, _, nv, h.2, by simp [nv], fun j d v h1 h2 => ?_, fun u hu => ?_, .inr ⟨⟨b, off, none⟩, cap, by rw [cnt_mul hz hlen], by simp [nv, cnt_mul hz hlen, hlen], fun j u hj => by rw [Addr.add_off]; exact (hnv j u hj).1⟩, by simp⟩
      · exact ⟨(cellOk_and (h.1 d (List.mem_of_getElem? h1))).1, hr j d v h1 (hnv j v h2).1⟩
      · obtain ⟨j, hj⟩ := List.getElem?_of_mem hu
        obtain ⟨k1, k2⟩ := hnv j u hj
        obtain ⟨d, hd⟩ : ∃ d, cs[j]? = some d := ⟨_, List.getElem?_eq_getElem k2⟩
        exact (hr j d u hd k1).one (cellOk_and (h.1 d (List.mem_of_getElem? hd))).2
  · rename_i r p sz off m hxe
    have h1 := chk_and h; clear h; obtain ⟨hes, h⟩ := h1
    simp only [Bool.and_eq_true] at hes
    obtain ⟨hne, hz⟩ := elemIs_eq hes.1
    rw [hez] at hne; subst hne
    rw [hxe] at hx
    split at h
    · rename_i R hR
      have h1 := chk_and h; clear h; obtain ⟨hbox, h⟩ := h1
      have hro := hx.ref_inv.2 R hR
      split at h
      · obtain ⟨c, hcb, hle, c', hc', hok, h⟩ := h
        subst hc'
        rcases hro with ⟨b, arr, e', cap, q, hb, hw, hv, hnc, hcs, hq⟩ | ⟨hv, ho, hm, hnb⟩
        · by_cases hm0 : m = 0
          · subst hm0
            have hnil : sub c sz0 off 0 = [] := by simp [sub]
            refine ⟨_, _, _, _, [], h, by rw [hnil]; rfl, fun j d v h1 h2 => by simp at h2, by simp, .inr ⟨⟨b, q, none⟩, cap, hv, by simp, fun j u hj => by simp at hj⟩, by simp⟩
          · have hq' := hq (.inr hm0)
            have hne : c ≠ [] := by
              intro e0; subst e0
              have : 0 < (off + m) * sz0 := Nat.mul_pos (by omega) (by omega)
              simp at hle; omega
            rcases hs.blk hR (by simpa using hbox) hcb with ⟨b', arr', e'', k1, k2, k3, k4⟩ | ⟨hnil, _⟩
            · have hbb := hs.inj b' b _ k1 hb
              subst hbb
              rw [hw] at k2; cases k2
              rw [Nat.add_mul] at hle
              let nv : List Value := (arr.toList.drop (off * sz0)).take (m * sz0)
              have hsl : (sub c sz0 off m).length = m * sz0 := by simp only [sub, List.length_take, List.length_drop]; omega
              have hnl : nv.length = m * sz0 := by simp only [nv, List.length_take, List.length_drop, Array.length_toList]; omega
              have hnv : ∀ j u, nv[j]? = some u → arr[off * sz0 + j]? = some u := fun j u hj => by
                simp only [nv, List.getElem?_take, List.getElem?_drop, Array.getElem?_toList] at hj
                split at hj
                · exact hj
                · cases hj
              have hsub : ∀ j d, (sub c sz0 off m)[j]? = some d → c[off * sz0 + j]? = some d := fun j d hj => by
                simp only [sub, List.getElem?_take, List.getElem?_drop] at hj
                split at hj
                · exact hj
                · cases hj
              have hcell : ∀ (j : Nat) d v, (sub c sz0 off m)[j]? = some d → nv[j]? = some v → d.notOwn = true ∧ Sh w (okb w own) d v := fun j d v h1 h2 => by
                have ht := k4 (off * sz0 + j) d v (hsub j d h1) (hnv j v h2)
                have hno := (cellOk_and (hok d (List.mem_of_getElem? h1))).1
                cases ht with
                | sh _ _ _ _ h => exact ⟨hno, h⟩
                | nil => simp [D.notOwn] at hno
                | own => simp [D.notOwn] at hno
              refine ⟨_, _, _, _, nv, h, by rw [hnl, hsl], hcell, fun u hu => ?_, .inr ⟨⟨b', q, none⟩, cap, hv, hnl, fun j u hj => ?_⟩, by simp⟩
              · obtain ⟨j, hj⟩ := List.getElem?_of_mem hu
                have hjl : j < (sub c sz0 off m).length := by rw [hsl, ← hnl]; exact (List.getElem?_eq_some_iff.1 hj).1
                obtain ⟨d, hd⟩ : ∃ d, (sub c sz0 off m)[j]? = some d := ⟨_, List.getElem?_eq_getElem hjl⟩
                exact (hcell j d u hd hj).2.one (cellOk_and (hok d (List.mem_of_getElem? hd))).2
              · rw [Addr.add_off, cell_of_heap hw, hq']; exact hnv j u hj
            · exact absurd hnil hne
        · subst hm; subst ho
          have hnil : sub c sz0 0 0 = [] := by simp [sub]
          exact ⟨_, _, _, _, [], h, by rw [hnil]; rfl, fun j d v h1 h2 => by simp at h2, by simp, .inl ⟨hv, rfl, rfl⟩, by simp⟩
      · split at h
        · obtain ⟨hm, hone, h⟩ := h
          have hcons : ∀ r2, some r = some r2 → r0 ≠ some r2 ∧ ∃ R, rt r2 = some (some R) := fun r2 e2 => by
            cases e2
            refine ⟨fun e3 => ?_, R, hR⟩
            have := hes.2
            rw [e3] at this; simp at this
          rcases hro with ⟨b, arr, e', cap, q, hb, hw, hv, hnc, hcs, hq⟩ | ⟨hv, ho, hm0, hnb⟩
          · have hq' := hq (.inl rfl)
            simp only [Nat.zero_mul] at hq'; subst hq'
            rcases hs.roots r R hR with ⟨b', arr', e'', k1, k2, k3, k4⟩ | ⟨_, _, k3⟩
            · have hbb := hs.inj b' b _ k1 hb
              subst hbb
              rw [hw] at k2; cases k2
              let nv : List Value := arr.toList.take R.cs.length
              have hnl : nv.length = R.cs.length := by simp only [nv, List.length_take, Array.length_toList]; omega
              have hnv : ∀ (j : Nat) (u : Value), nv[j]? = some u → arr[j]? = some u := fun j u hj => by
                have hj' : (arr.toList.take R.cs.length)[j]? = some u := hj
                rw [List.getElem?_take] at hj'
                split at hj'
                · simpa using hj'
                · cases hj'
              have hcell : ∀ (j : Nat) d v, R.cs[j]? = some d → nv[j]? = some v → Tr w (okb w own) own (r, [j]) d v := fun j d v h1 h2 => by
                have := k4 j d v h1 (hnv j v h2)
                unfold CellOk at this
                simp only [Bool.not_eq_true'] at hbox
                rw [hbox] at this; simpa using this
              refine ⟨_, _, _, _, nv, h, hnl, hcell, fun u hu => ?_, .inr ⟨⟨b', 0, none⟩, cap, hv, by rw [hnl, hm], fun j u hj => ?_⟩, hcons⟩
              · obtain ⟨j, hj⟩ := List.getElem?_of_mem hu
                have hjl : j < R.cs.length := by rw [← hnl]; exact (List.getElem?_eq_some_iff.1 hj).1
                obtain ⟨d, hd⟩ : ∃ d, R.cs[j]? = some d := ⟨_, List.getElem?_eq_getElem hjl⟩
                exact (hcell j d u hd hj).one (hone d (List.mem_of_getElem? hd))
              · rw [Addr.add_off, cell_of_heap hw, Nat.zero_add]; exact hnv j u hj
            · exact absurd hb (k3 b)
          · subst hm0
            have hnil : R.cs = [] := List.eq_nil_of_length_eq_zero (by rw [← hm]; simp)
            exact ⟨_, _, _, _, [], h, by simp [hnil], fun j d v h1 h2 => by simp at h2, by simp, .inl ⟨hv, rfl, rfl⟩, hcons⟩
        · exact h.elim
    · exact h.elim
  · exact h.elim

theorem run_append_room' (t ty e : TypeId) (i : TypeInfo) (ht : P.underlying t = some (.slice e)) (hi : P.info? e = some i)
    (g sLen sCap : Nat) (cur : Array Value) (e' : TypeId) (hg : w.heap[g]? = some (.cells cur e' (0, 0)))
    (a : Addr) (m c : Nat) (news : List Value) (hl : news.length = m * i.size) (hnews : ∀ j u, news[j]? = some u → w.cell? (a.add j) = some u) (h1 : ∀ u ∈ news, u.oneCell' = true)
    (hroom : sLen + m ≤ sCap) (hfit : sLen * i.size + news.length ≤ cur.size) :
    (Builtin.append_ #[t, t] ty #[.slice (some ⟨g, 0, none⟩) sLen sCap, .slice (some a) m c]).run P w =
      .ok (.slice (some ⟨g, 0, none⟩) (sLen + m) sCap) (w.setRow g (cur.toList.take (sLen * i.size) ++ news ++ cur.toList.drop (sLen * i.size + news.length)).toArray) := by
  have hf := run_firstCells_some (P := P) w i.size m a m c news hl hnews
  have hst := run_storeCells_at P g (sLen * i.size) e' news 0 cur w hg (by simpa using hfit) h1
  simp only [Nat.add_zero] at hst
  simp [Builtin.append_, run_underlying ht, sizeOf, typeInfo, hi, Builtin.lenOf, hroom, hf, Addr.add_off, hst]

theorem run_append_nothing (t ty e : TypeId) (i : TypeInfo) (ht : P.underlying t = some (.slice e)) (hi : P.info? e = some i) (base : Option Addr) (m cap : Nat) (h : m ≤ cap) :
    (Builtin.append_ #[t, t] ty #[.slice base m cap, .slice none 0 0]).run P w = .ok (.slice base m cap) w := by
  cases base <;> simp [Builtin.append_, run_underlying ht, sizeOf, typeInfo, hi, Builtin.lenOf, h, Builtin.firstCells, storeCells]

theorem run_append_nil0 (t ty e : TypeId) (i : TypeInfo) (ht : P.underlying t = some (.slice e)) (hi : P.info? e = some i) (ad : Addr) (cap : Nat) :
    (Builtin.append_ #[t, t] ty #[.slice none 0 0, .slice (some ad) 0 cap]).run P w = .ok (.slice none 0 0) w := by
  simp [Builtin.append_, run_underlying ht, sizeOf, typeInfo, hi, Builtin.lenOf, Builtin.firstCells, loadCells, loadCellsFrom]

/-- What an append comes to. -/
inductive Appended (w : World) (sv : Value) (n0 m sz : Nat) (xs nv : List Value) : Value → World → Prop
  | room (g cap : Nat) (cur : Array Value) (e' : TypeId) (h1 : sv = .slice (some ⟨g, 0, none⟩) n0 cap) (h2 : w.heap[g]? = some (.cells cur e' (0, 0))) (h3 : n0 + m ≤ cap) (h4 : cap * sz = cur.size) :
      Appended w sv n0 m sz xs nv (.slice (some ⟨g, 0, none⟩) (n0 + m) cap) (w.setRow g (cur.toList.take (n0 * sz) ++ nv ++ cur.toList.drop (n0 * sz + nv.length)).toArray)
  | grown (cap : Nat) (arr : Array Value) (e' : TypeId) (h3 : n0 + m ≤ cap) (h4 : cap * sz = arr.size) (h5 : ∃ rest, arr.toList = xs ++ nv ++ rest) :
      Appended w sv n0 m sz xs nv (.slice (some ⟨w.heap.size, 0, none⟩) (n0 + m) cap) (w.drew.alloc (.cells arr e'))
  | nothing (cap : Nat) (base : Option Addr) (h1 : sv = .slice base n0 cap) (h2 : m = 0) : Appended w sv n0 m sz xs nv (.slice base n0 cap) w

theorem run_append_vm {own' : Nat → Option Lab} {rt' : RT} (t ty e : TypeId) (i : TypeInfo) (z : Value) (ht : P.underlying t = some (.slice e)) (hi : P.info? e = some i) (hz : i.zero = some z) (hzs : z.cells.size = i.size)
    (sv xv : Value) (n0 m : Nat) (r0 : Option Nat) (xs nv : List Value) (news : List D) (c : Option Nat) (hx : SrcOk w own' rt' i.size r0 xv m news c nv)
    (hsv : (sv = .slice none 0 0 ∧ n0 = 0 ∧ xs = []) ∨ ∃ g cap cur e', sv = .slice (some ⟨g, 0, none⟩) n0 cap ∧ w.heap[g]? = some (.cells cur e' (0, 0)) ∧ n0 ≤ cap ∧ cap * i.size = cur.size ∧ xs.length = n0 * i.size ∧ (∀ (j : Nat) (u : Value), xs[j]? = some u → cur[j]? = some u))
    (hb : roomOk (n0 + m) i.bytes) : ∃ v' w', (Builtin.append_ #[t, t] ty #[sv, xv]).run P w = .ok v' w' ∧ Appended w sv n0 m i.size xs nv v' w' := by
  have hsmall : ((n0 + m : Nat) : Int) ≤ 9223372036854775807 := by have := hb.2; omega
  have hbig : ∀ old : Nat, grownCap w (n0 + m) old e ≥ n0 + m := fun old => grownCap_ge w (n0 + m) old e
  rcases hx.val with ⟨rfl, rfl, rfl⟩ | ⟨ad, cap, rfl, hl, hnews⟩
  · rcases hsv with ⟨rfl, rfl, rfl⟩ | ⟨g, cap, cur, e', rfl, hg, hnc, hcs, _, _⟩
    · exact ⟨_, _, run_append_nothing t ty e i ht hi none 0 0 (Nat.le_refl _), .nothing 0 none rfl rfl⟩
    · exact ⟨_, _, run_append_nothing t ty e i ht hi _ n0 cap hnc, .nothing cap _ rfl rfl⟩
  · rcases hsv with ⟨rfl, rfl, rfl⟩ | ⟨g, cap', cur, e', rfl, hg, hnc, hcs, hxl, hxs⟩
    · by_cases hm : m = 0
      · subst hm
        exact ⟨_, _, run_append_nil0 t ty e i ht hi _ cap, .nothing 0 none rfl rfl⟩
      · have hr := run_append_nil (P := P) w t ty e i z ht hi hz ad m cap nv hl hnews (by omega) (by omega) (by have := hb.1; simp only [Nat.zero_add] at this; omega)
        have hge := grownCap_ge w m 0 e
        refine ⟨_, _, hr, ?_⟩
        have := Appended.grown (w := w) (sv := .slice none 0 0) (n0 := 0) (m := m) (sz := i.size) (xs := []) (nv := nv) (grownCap w m 0 e) (nv.toArray ++ Builtin.zeroCells z.cells (grownCap w m 0 e - m)) e (by omega)
          (by simp only [Array.size_append, List.size_toArray, size_zeroCells, hzs, hl, ← Nat.add_mul]; congr 1; omega) ⟨(Builtin.zeroCells z.cells (grownCap w m 0 e - m)).toList, by simp⟩
        simpa using this
    · by_cases hroom : n0 + m ≤ cap'
      · have hfit : n0 * i.size + nv.length ≤ cur.size := by rw [hl, ← hcs, ← Nat.add_mul]; exact Nat.mul_le_mul_right _ hroom
        exact ⟨_, _, run_append_room' t ty e i ht hi g n0 cap' cur e' hg ad m cap nv hl hnews hx.one hroom hfit, .room g cap' cur e' rfl hg hroom hcs⟩
      · have holds : ∀ j u, xs[j]? = some u → w.cell? ((⟨g, 0, none⟩ : Addr).add j) = some u := fun j u h => by
          rw [Addr.add_off, Nat.zero_add, cell_of_heap hg]; exact hxs j u h
        have hr := run_append_grow (P := P) w t ty e i z ht hi hz ⟨g, 0, none⟩ n0 cap' xs hxl holds ad m cap nv hl hnews (by omega) hsmall (growslice_fits (by omega) hb.1)
        have hge := grownCap_ge w (n0 + m) cap' e
        exact ⟨_, _, hr, .grown _ _ _ hge (by simp only [Array.size_append, List.size_toArray, size_zeroCells, hzs, hxl, hl, ← Nat.add_mul]; congr 1; omega)
          ⟨(Builtin.zeroCells z.cells (grownCap w (n0 + m) cap' e - (n0 + m))).toList, by simp⟩⟩

end
end Go.Vm
