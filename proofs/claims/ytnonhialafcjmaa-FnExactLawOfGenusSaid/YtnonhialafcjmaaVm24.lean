/- A state that says less: roots under other names, what is needless forgotten. -/
import Derived.Test.YtnonhialafcjmaaVm23
set_option linter.unusedVariables false
set_option linter.unusedSimpArgs false
set_option linter.unusedSectionVars false
namespace Go.Vm
open Go Go.RowKit

def eqV (u v : Value) : Prop :=
  match u, v with
  | .int k a, .int k' b => chk (ikEq k k') (a = b)
  | .bool a, .bool b => a = b
  | u, v => u = v
def wk1 (σ : List (Option Nat)) (d2 d : D) (K : Prop) : Prop :=
  match d2 with
  | .undef => K
  | .kb b => match d with
    | .kb b' => b' = b ∧ K
    | _ => False
  | .lit v => match d with
    | .lit u => eqV u v ∧ K
    | .kb b => eqV (.bool b) v ∧ K
    | _ => False
  | .list o sz cs => match d with
    | .list o' sz' cs' => o' = o ∧ sz' = sz ∧ cs' = cs ∧ K
    | _ => False
  | .cptr cs off => match d with
    | .cptr cs' off' => cs' = cs ∧ off' = off ∧ K
    | _ => False
  | .ref k p sz off n => match d with
    | .ref r p' sz' off' n' => match σ[k]? with
      | some (some r') => chk (Nat.beq r r') (p' = p ∧ sz' = sz ∧ off' = off ∧ n' = n ∧ K)
      | _ => False
    | .lit (.slice none 0 0) => match σ[k]? with
      | some none => p = [] ∧ off = 0 ∧ n = 0 ∧ K
      | _ => False
    | _ => False
  | .ptr k p off => match d with
    | .ptr r p' off' => match σ[k]? with
      | some (some r') => chk (Nat.beq r r') (p' = p ∧ off' = off ∧ K)
      | _ => False
    | _ => False
  | _ => False
def wkLg (f : D → D → Prop → Prop) : List D → List D → Prop → Prop
  | [], [], K => K
  | d2 :: ds2, d :: ds, K => f d2 d (wkLg f ds2 ds K)
  | _, _, _ => False
def wkT (f : D → D → Prop → Prop) (σ : List (Option Nat)) (d2 d : D) (K : Prop) : Prop :=
  match d2 with
  | .agg ds2 => match d with
    | .agg ds => wkLg f ds2 ds K
    | _ => False
  | .tup ds2 => match d with
    | .tup ds => wkLg f ds2 ds K
    | _ => False
  | .fn f2 fs2 cs2 => match d with
    | .fn f1 fs cs => f1 = f2 ∧ wkLg f fs2 fs (wkLg f cs2 cs K)
    | _ => False
  | d2 => wk1 σ d2 d K
def wkD (σ : List (Option Nat)) (d2 d : D) (K : Prop) : Prop := wkT (wkT (wkT (wk1 σ) σ) σ) σ d2 d K
def wkL (σ : List (Option Nat)) : List D → List D → Prop → Prop
  | [], [], K => K
  | d2 :: ds2, d :: ds, K => wkD σ d2 d (wkL σ ds2 ds K)
  | _, _, _ => False
def wkRoots (σ : List (Option Nat)) (rt : List (Option Root)) : List (Option Nat) → List (Option Root) → Prop → Prop
  | [], [], K => K
  | s :: ss, x2 :: xs, K => match s, x2 with
    | some r, some ⟨true, sz, cs⟩ => match rt[r]? with
      | some (some ⟨true, sz', cs'⟩) => chk (Nat.beq sz' sz) (wkL σ cs cs' (wkRoots σ rt ss xs K))
      | _ => False
    | some r, some ⟨false, sz, cs⟩ => match rt[r]? with
      | some (some ⟨false, sz', cs'⟩) => chk (Nat.beq sz' sz) (cs' = cs ∧ wkRoots σ rt ss xs K)
      | _ => False
    | none, some ⟨false, _, []⟩ => wkRoots σ rt ss xs K
    | none, none => wkRoots σ rt ss xs K
    | _, _ => False
  | _, _, _ => False
def keepOk (σ : List (Option Nat)) (rt2 : List (Option Root)) : Nat → Bool
  | 0 => true
  | r + 1 => (match σ[r]? with
    | some (some r') => Nat.beq r r'
    | some none => match rt2[r]? with
      | some none => true
      | _ => false
    | none => false) && keepOk σ rt2 r

/-- What it takes to forget. -/
def weakK (kp : Nat) (σ : List (Option Nat)) (st st2 : St) : Prop :=
  chk (distinct σ && keepOk σ st2.rt kp) (wkL σ st2.env st.env (wkRoots σ st.rt σ st2.rt True))

theorem eqV_eq {u v : Value} (h : eqV u v) : u = v := by
  unfold eqV at h
  split at h
  · have h1 := chk_and h; rw [ikEq_eq h1.1, h1.2]
  · rw [h]
  · exact h

def own2 (own : Nat → Option Lab) (σ : List (Option Nat)) : Nat → Option Lab := ownRet own σ 0

section
variable {σ : List (Option Nat)} {w : World} {own : Nat → Option Lab} {rt rt2 : RT}

/-- What the names σ stand for. -/
structure SigOk (σ : List (Option Nat)) (own : Nat → Option Lab) (rt rt2 : RT) : Prop where
  live : ∀ (k r : Nat), σ[k]? = some (some r) → rt2 k ≠ none ∧ (∃ R, rt r = some (some R)) ∧ ∀ b p, own2 own σ b = some (k, p) ↔ own b = some (r, p)
  path : ∀ (k r : Nat) R R2 p, σ[k]? = some (some r) → rt r = some (some R) → rt2 k = some (some R2) → Vp R p → Vp R2 p
  fresh : ∀ k : Nat, σ[k]? = some none → rt2 k ≠ none ∧ ∀ b p, own2 own σ b ≠ some (k, p)

theorem okb2 {b : Nat} (h : okb w own b) : okb w (own2 own σ) b := by
  refine ⟨?_, h.2⟩
  unfold own2 ownRet
  rw [h.1]

def MtTo (σ : List (Option Nat)) (d2 d : D) : Prop := ∀ (w : World) (own : Nat → Option Lab) (rt rt2 : RT), SigOk σ own rt rt2 → ∀ v, Mt w (okb w own) own rt d v → Mt w (okb w (own2 own σ)) (own2 own σ) rt2 d2 v

theorem Sh.two {d : D} {v : Value} (h : Sh w (okb w own) d v) : Mt w (okb w (own2 own σ)) (own2 own σ) rt2 d v := .sh d v (h.frame (fun _ hb => ⟨okb2 hb, rfl⟩))

theorem wk1_sound {d2 d : D} {K : Prop} (h : wk1 σ d2 d K) : K ∧ MtTo σ d2 d := by
  unfold wk1 at h
  split at h
  · exact ⟨h, fun w own rt rt2 hs v _ => .undef v⟩
  · split at h
    · obtain ⟨e, hk⟩ := h; subst e
      exact ⟨hk, fun w own rt rt2 hs v hm => by rw [hm.kb_inv]; exact .sh _ _ (.kb _)⟩
    · exact h.elim
  · split at h
    · obtain ⟨e, hk⟩ := h; have e := eqV_eq e; subst e
      exact ⟨hk, fun w own rt rt2 hs v hm => by rw [hm.lit_inv]; exact .sh _ _ (.lit _)⟩
    · obtain ⟨e, hk⟩ := h; have e := eqV_eq e; subst e
      exact ⟨hk, fun w own rt rt2 hs v hm => by rw [hm.kb_inv]; exact .sh _ _ (.lit _)⟩
    · exact h.elim
  · split at h
    · obtain ⟨e1, e2, e3, hk⟩ := h; subst e1; subst e2; subst e3
      exact ⟨hk, fun w own rt rt2 hs v hm => hm.list_inv.two⟩
    · exact h.elim
  · split at h
    · obtain ⟨e1, e2, hk⟩ := h; subst e1; subst e2
      exact ⟨hk, fun w own rt rt2 hs v hm => hm.cptr_inv.two⟩
    · exact h.elim
  · rename_i k p sz off n
    split at h
    · rename_i r p' sz' off' n'
      split at h
      · rename_i r' hσ
        have h1 := chk_and h
        obtain ⟨e0, e1, e2, e3, e4, hk⟩ := h1
        rw [Nat.beq_eq] at e0; subst e0; subst e1; subst e2; subst e3; subst e4
        refine ⟨hk, fun w own rt rt2 hs v hm => ?_⟩
        obtain ⟨h0, ⟨R, hR⟩, hown⟩ := hs.live _ _ hσ
        have hone : v.oneCell' = true := by
          cases hm with
          | ref _ _ _ _ _ _ _ h1 _ => exact h1
          | sh _ _ h => cases h
        refine .ref _ _ _ _ _ _ h0 hone (fun R' hR' => ⟨hs.path _ _ R R' _ hσ hR hR' (hm.ref_path R hR), ?_⟩)
        rcases hm.ref_inv.2 R hR with ⟨b, arr, e, cap, o, hb, hw, hv, hnc, hc, ho⟩ | ⟨hv, ho, hn, hb⟩
        · exact .inl ⟨b, arr, e, cap, o, (hown b _).2 hb, hw, hv, hnc, hc, ho⟩
        · exact .inr ⟨hv, ho, hn, fun b hb' => hb b ((hown b _).1 hb')⟩
      · exact h.elim
    · split at h
      · rename_i hσ
        obtain ⟨e1, e2, e3, hk⟩ := h; subst e1; subst e2; subst e3
        refine ⟨hk, fun w own rt rt2 hs v hm => ?_⟩
        have := hm.lit_inv
        subst this
        obtain ⟨h0, hno⟩ := hs.fresh _ hσ
        exact .ref _ _ _ _ _ _ h0 rfl (fun R' _ => ⟨.inl rfl, .inr ⟨rfl, rfl, rfl, fun b => hno b _⟩⟩)
      · exact h.elim
    · exact h.elim
  · split at h
    · split at h
      · rename_i r' hσ
        have h1 := chk_and h
        obtain ⟨e0, e1, e2, hk⟩ := h1
        rw [Nat.beq_eq] at e0; subst e0; subst e1; subst e2
        refine ⟨hk, fun w own rt rt2 hs v hm => ?_⟩
        obtain ⟨h0, ⟨R, hR⟩, hown⟩ := hs.live _ _ hσ
        have hone : v.oneCell' = true := by
          cases hm with
          | ptr _ _ _ _ _ h1 _ => exact h1
          | sh _ _ h => cases h
        refine .ptr _ _ _ _ h0 hone (fun R' hR' => ?_)
        obtain ⟨b, arr, e, hb, hw, hv⟩ := hm.ptr_inv.2 R hR
        exact ⟨hs.path _ _ R R' _ hσ hR hR' (hm.ptr_path R hR), b, arr, e, (hown b _).2 hb, hw, hv⟩
      · exact h.elim
    · exact h.elim
  · exact h.elim

theorem wkLg_sound {f : D → D → Prop → Prop} (hf : ∀ d2 d K, f d2 d K → K ∧ MtTo σ d2 d) : ∀ (ds2 ds : List D) (K : Prop), wkLg f ds2 ds K → K ∧ ds2.length = ds.length ∧ ∀ (i : Nat) d2 d, ds2[i]? = some d2 → ds[i]? = some d → MtTo σ d2 d
  | [], [], _, h => ⟨h, rfl, fun i d2 d h => by simp at h⟩
  | d2 :: ds2, d :: ds, K, h => by
    obtain ⟨h1, h2⟩ := hf _ _ _ h
    obtain ⟨h3, h4, h5⟩ := wkLg_sound hf ds2 ds K h1
    refine ⟨h3, by simp [h4], fun i x y hx hy => ?_⟩
    cases i with
    | zero => simp at hx hy; subst hx; subst hy; exact h2
    | succ i => exact h5 i x y (by simpa using hx) (by simpa using hy)
  | [], _ :: _, _, h => h.elim
  | _ :: _, [], _, h => h.elim

theorem at_of_len {α β : Type} {l : List α} {m : List β} (h : l.length = m.length) {i : Nat} {x : α} (hx : l[i]? = some x) : ∃ y, m[i]? = some y := by
  have : i < l.length := by
    rcases Nat.lt_or_ge i l.length with h' | h'
    · exact h'
    · rw [List.getElem?_eq_none h'] at hx; cases hx
  exact ⟨m[i], List.getElem?_eq_getElem (by omega)⟩

theorem wkT_sound {f : D → D → Prop → Prop} (hf : ∀ d2 d K, f d2 d K → K ∧ MtTo σ d2 d) (d2 d : D) (K : Prop) (h : wkT f σ d2 d K) : K ∧ MtTo σ d2 d := by
  unfold wkT at h
  split at h
  · split at h
    · obtain ⟨h1, h2, h3⟩ := wkLg_sound hf _ _ _ h
      refine ⟨h1, fun w own rt rt2 hs v hm => ?_⟩
      obtain ⟨vs, hv, hl, hr⟩ := hm.agg_inv
      subst hv
      refine .agg _ _ (by rw [hl, h2]) (fun i d v hd hv => ?_)
      obtain ⟨y, hy⟩ := at_of_len h2 hd
      exact h3 i d y hd hy w own rt rt2 hs v (hr i y v hy hv)
    · exact h.elim
  · split at h
    · obtain ⟨h1, h2, h3⟩ := wkLg_sound hf _ _ _ h
      refine ⟨h1, fun w own rt rt2 hs v hm => ?_⟩
      obtain ⟨vs, hv, hl, hr⟩ := hm.tup_inv
      subst hv
      refine .tup _ _ (by rw [hl, h2]) (fun i d v hd hv => ?_)
      obtain ⟨y, hy⟩ := at_of_len h2 hd
      exact h3 i d y hd hy w own rt rt2 hs v (hr i y v hy hv)
    · exact h.elim
  · split at h
    · obtain ⟨e, h⟩ := h
      subst e
      obtain ⟨h0, k2, k3⟩ := wkLg_sound hf _ _ _ h
      obtain ⟨h1, h2, h3⟩ := wkLg_sound hf _ _ _ h0
      refine ⟨h1, fun w own rt rt2 hs v hm => ?_⟩
      obtain ⟨first, caps, hv, hl1, hl2, hr1, hr2⟩ := hm.fn_inv
      subst hv
      refine .fn _ _ _ _ _ (by rw [hl1, k2]) (by rw [hl2, h2]) (fun i d v hd hv => ?_) (fun i d v hd hv => ?_)
      · obtain ⟨y, hy⟩ := at_of_len k2 hd
        exact k3 i d y hd hy w own rt rt2 hs v (hr1 i y v hy hv)
      · obtain ⟨y, hy⟩ := at_of_len h2 hd
        exact h3 i d y hd hy w own rt rt2 hs v (hr2 i y v hy hv)
    · exact h.elim
  · exact wk1_sound h

theorem wkD_sound {d2 d : D} {K : Prop} (h : wkD σ d2 d K) : K ∧ MtTo σ d2 d :=
  wkT_sound (wkT_sound (wkT_sound (fun _ _ _ => wk1_sound))) _ _ _ h

theorem wkL_sound : ∀ (ds2 ds : List D) (K : Prop), wkL σ ds2 ds K → K ∧ ds2.length = ds.length ∧ ∀ (i : Nat) d2 d, ds2[i]? = some d2 → ds[i]? = some d → MtTo σ d2 d
  | [], [], _, h => ⟨h, rfl, fun i d2 d h => by simp at h⟩
  | d2 :: ds2, d :: ds, K, h => by
    obtain ⟨h1, h2⟩ := wkD_sound h
    obtain ⟨h3, h4, h5⟩ := wkL_sound ds2 ds K h1
    refine ⟨h3, by simp [h4], fun i x y hx hy => ?_⟩
    cases i with
    | zero => simp at hx hy; subst hx; subst hy; exact h2
    | succ i => exact h5 i x y (by simpa using hx) (by simpa using hy)
  | [], _ :: _, _, h => h.elim
  | _ :: _, [], _, h => h.elim

/-- What is told of root k. -/
def RootTo (σ : List (Option Nat)) (rt : List (Option Root)) (s : Option Nat) (x : Option Root) : Prop :=
  match s, x with
  | some r, some R2 => ∃ R, rt[r]? = some (some R) ∧ R.box = R2.box ∧ if R2.box = true then R2.cs.length = R.cs.length ∧ ∀ (i : Nat) d2 d, R2.cs[i]? = some d2 → R.cs[i]? = some d → MtTo σ d2 d else R.cs = R2.cs
  | none, some R2 => R2.box = false ∧ R2.cs = []
  | none, none => True
  | some _, none => False

theorem wkRoots_sound {σ : List (Option Nat)} {rt : List (Option Root)} : ∀ (ss : List (Option Nat)) (xs : List (Option Root)) (K : Prop), wkRoots σ rt ss xs K →
    ss.length = xs.length ∧ ∀ (k : Nat) s x, ss[k]? = some s → xs[k]? = some x → RootTo σ rt s x
  | [], [], _, _ => ⟨rfl, fun k s x h => by simp at h⟩
  | s :: ss, x2 :: xs, K, h => by
    have both : RootTo σ rt s x2 ∧ ∃ K', wkRoots σ rt ss xs K' := by
      simp only [wkRoots] at h
      split at h
      · split at h
        · rename_i hr
          have h1 := chk_and h
          obtain ⟨h2, h3, h4⟩ := wkL_sound _ _ _ h1.2
          exact ⟨⟨_, hr, rfl, by rw [if_pos rfl]; exact ⟨h3, h4⟩⟩, _, h2⟩
        · exact h.elim
      · split at h
        · rename_i hr
          have h1 := chk_and h
          exact ⟨⟨_, hr, rfl, by rw [if_neg (by simp)]; exact h1.2.1⟩, _, h1.2.2⟩
        · exact h.elim
      · exact ⟨⟨rfl, rfl⟩, _, h⟩
      · exact ⟨trivial, _, h⟩
      · exact h.elim
    obtain ⟨h1, K', h2⟩ := both
    obtain ⟨h3, h4⟩ := wkRoots_sound ss xs K' h2
    refine ⟨by simp [h3], fun k y z hy hz => ?_⟩
    cases k with
    | zero => simp at hy hz; subst hy; subst hz; exact h1
    | succ k => exact h4 k y z (by simpa using hy) (by simpa using hz)
  | [], _ :: _, _, h => h.elim
  | _ :: _, [], _, h => h.elim

theorem keepOk_spec {σ : List (Option Nat)} {rt2 : List (Option Root)} : ∀ (kp : Nat), keepOk σ rt2 kp = true → ∀ r, r < kp → σ[r]? = some (some r) ∨ (σ[r]? = some none ∧ rt2[r]? = some none)
  | 0, _, r, hr => by omega
  | kp + 1, h, r, hr => by
    simp only [keepOk, Bool.and_eq_true] at h
    by_cases e : r = kp
    · subst e
      have h := h.1
      split at h
      · rename_i r' hσ; rw [Nat.beq_eq] at h; rw [hσ, ← h]; exact .inl rfl
      · rename_i hσ
        split at h
        · rename_i hx; exact .inr ⟨hσ, hx⟩
        · cases h
      · cases h
    · exact keepOk_spec kp h.2 r (by omega)

theorem BelowD.to {σ : List (Option Nat)} {kp : Nat} {w : World} {own : Nat → Option Lab} {rt rt2 : RT} (hs : SigOk σ own rt rt2)
    (hk : ∀ r, r < kp → σ[r]? = some (some r) ∨ (σ[r]? = some none ∧ rt2 r = some none)) {d : D} (h : BelowD kp d) :
    ∀ v, Mt w (okb w own) own rt d v → Mt w (okb w (own2 own σ)) (own2 own σ) rt2 d v := by
  induction h with
  | undef => intro v _; exact .undef v
  | kb b => intro v hm; rw [hm.kb_inv]; exact .sh _ _ (.kb _)
  | lit u => intro v hm; rw [hm.lit_inv]; exact .sh _ _ (.lit _)
  | list => intro v hm; exact hm.list_inv.two
  | cptr => intro v hm; exact hm.cptr_inv.two
  | agg ds _ ih =>
    intro v hm
    obtain ⟨vs, hv, hl, hr⟩ := hm.agg_inv
    subst hv
    exact .agg _ _ hl (fun i d v hd hv => ih d (List.mem_of_getElem? hd) v (hr i d v hd hv))
  | tup ds _ ih =>
    intro v hm
    obtain ⟨vs, hv, hl, hr⟩ := hm.tup_inv
    subst hv
    exact .tup _ _ hl (fun i d v hd hv => ih d (List.mem_of_getElem? hd) v (hr i d v hd hv))
  | fn f fs cs _ _ ihf ih =>
    intro v hm
    obtain ⟨first, caps, hv, hl1, hl2, hr1, hr2⟩ := hm.fn_inv
    subst hv
    exact .fn _ _ _ _ _ hl1 hl2 (fun i d v hd hv => ihf d (List.mem_of_getElem? hd) v (hr1 i d v hd hv)) (fun i d v hd hv => ih d (List.mem_of_getElem? hd) v (hr2 i d v hd hv))
  | ref r p sz off m hr =>
    intro v hm
    have hone : v.oneCell' = true := by
      cases hm with
      | ref _ _ _ _ _ _ _ h1 _ => exact h1
      | sh _ _ h => cases h
    rcases hk r hr with hσ | ⟨hσ, hd⟩
    · obtain ⟨h0, ⟨R, hR⟩, hown⟩ := hs.live _ _ hσ
      refine .ref _ _ _ _ _ _ h0 hone (fun R' hR' => ⟨hs.path _ _ R R' _ hσ hR hR' (hm.ref_path R hR), ?_⟩)
      rcases hm.ref_inv.2 R hR with ⟨b, arr, e, cap, o, hb, hw, hv, hnc, hc, ho⟩ | ⟨hv, ho, hn, hb⟩
      · exact .inl ⟨b, arr, e, cap, o, (hown b _).2 hb, hw, hv, hnc, hc, ho⟩
      · exact .inr ⟨hv, ho, hn, fun b hb' => hb b ((hown b _).1 hb')⟩
    · refine .ref _ _ _ _ _ _ (by rw [hd]; simp) hone (fun R' h => by rw [hd] at h; cases h)
  | ptr r p off hr =>
    intro v hm
    have hone : v.oneCell' = true := by
      cases hm with
      | ptr _ _ _ _ _ h1 _ => exact h1
      | sh _ _ h => cases h
    rcases hk r hr with hσ | ⟨hσ, hd⟩
    · obtain ⟨h0, ⟨R, hR⟩, hown⟩ := hs.live _ _ hσ
      refine .ptr _ _ _ _ h0 hone (fun R' hR' => ?_)
      obtain ⟨b, arr, e, hb, hw, hv⟩ := hm.ptr_inv.2 R hR
      exact ⟨hs.path _ _ R R' _ hσ hR hR' (hm.ptr_path R hR), b, arr, e, (hown b _).2 hb, hw, hv⟩
    · refine .ptr _ _ _ _ (by rw [hd]; simp) hone (fun R' h => by rw [hd] at h; cases h)

theorem lt_of_at {α : Type} {l : List α} {i : Nat} {x : α} (hx : l[i]? = some x) : i < l.length := by
  rcases Nat.lt_or_ge i l.length with h' | h'
  · exact h'
  · rw [List.getElem?_eq_none h'] at hx; cases hx

theorem Weak.of {kp : Nat} (σ : List (Option Nat)) {st st2 : St} (h : weakK kp σ st st2) : Weak kp st st2 := by
  intro w0 a w hkp hf
  obtain ⟨own, hd, hl, hs⟩ := hf
  have h := chk_and h
  simp only [Bool.and_eq_true] at h
  obtain ⟨⟨hdis, hkeep⟩, h⟩ := h
  obtain ⟨hroots, hlen, hslots⟩ := wkL_sound _ _ _ h
  obtain ⟨hrl, hrt⟩ := wkRoots_sound _ _ _ hroots
  have hown0 : ∀ (k r : Nat), σ[k]? = some (some r) → ∀ b p, own2 own σ b = some (k, p) ↔ own b = some (r, p) := fun k r hk b p => by
    have := ownRet_iff (own := own) (n := 0) hdis hk b p
    simpa [own2] using this
  have sig : SigOk σ own (rtOf st.rt) (rtOf st2.rt) := by
    refine ⟨fun k r hk => ?_, fun k r R R2 p hk h1 h2 hp => ?_, fun k hk => ?_⟩
    rotate_left
    · rcases hp with e | ⟨hb, hg⟩
      · exact .inl e
      · obtain ⟨x, hx⟩ := at_of_len hrl hk
        have hto := hrt k _ _ hk hx
        unfold rtOf at h1 h2
        rw [hx] at h2
        simp only [Option.some.injEq] at h2
        subst h2
        obtain ⟨R0, hR0, hbox, hcs⟩ := hto
        rw [hR0] at h1
        simp only [Option.some.injEq] at h1
        subst h1
        split at hcs
        · rename_i h9; rw [hbox, h9] at hb; cases hb
        · exact .inr ⟨by rw [← hbox]; exact hb, by rw [← hcs]; exact hg⟩
    rotate_right
    · have hlt := lt_of_at hk
      obtain ⟨x, hx⟩ := at_of_len hrl hk
      have := hrt k _ _ hk hx
      cases x with
      | none => exact this.elim
      | some R2 =>
        obtain ⟨R, hR, _⟩ := this
        exact ⟨by unfold rtOf; rw [hx]; simp, ⟨R, hR⟩, hown0 k r hk⟩
    · obtain ⟨x, hx⟩ := at_of_len hrl hk
      refine ⟨by unfold rtOf; rw [hx]; simp, fun b p hb => ?_⟩
      obtain ⟨k', r, e, hk', _⟩ := ownRet_inv hb
      have : k = k' := by omega
      subst this
      rw [hk] at hk'; cases hk'
  refine ⟨own2 own σ, hd, by rw [hlen]; exact hl, ⟨hs.below, fun i => ?_, ?_, ?_, ?_, fun p hp => ?_⟩⟩
  · show Mt w _ _ _ (st2.env.getD i .undef) (a.tmps.getD i Go.undef)
    rw [List.getD_eq_getElem?_getD]
    cases hi : st2.env[i]? with
    | none => exact .undef _
    | some d2 =>
      obtain ⟨d, hd'⟩ := at_of_len hlen hi
      have := hs.env i
      rw [List.getD_eq_getElem?_getD, hd'] at this
      exact hslots i d2 d hi hd' w own _ _ sig _ this
  · intro k R2 hk
    have hx : st2.rt[k]? = some (some R2) := hk
    obtain ⟨s, hσ⟩ := at_of_len hrl.symm hx
    have hto := hrt k s _ hσ hx
    cases s with
    | none =>
      refine .inr ⟨hto.1, hto.2, fun b => (sig.fresh k hσ).2 b []⟩
    | some r =>
      obtain ⟨R, hR, hbox, hcs⟩ := hto
      obtain ⟨_, _, hown⟩ := sig.live k r hσ
      rcases hs.roots r R hR with ⟨b, arr, e, h1, h2, h3, h4⟩ | ⟨h1, h2, h3⟩
      · refine .inl ⟨b, arr, e, (hown b []).2 h1, h2, ?_, fun i d2 v hd2 hv => ?_⟩
        · split at hcs
          · rw [hcs.1]; exact h3
          · rw [← hcs]; exact h3
        · unfold CellOk
          split at hcs
          · rename_i hb
            rw [if_pos hb]
            obtain ⟨d, hd'⟩ := at_of_len hcs.1 hd2
            have := h4 i d v hd' hv
            unfold CellOk at this
            rw [hbox, if_pos hb] at this
            exact hcs.2 i d2 d hd2 hd' w own _ _ sig v this
          · rename_i hb
            rw [if_neg hb]
            rw [← hcs] at hd2
            have := h4 i d2 v hd2 hv
            unfold CellOk at this
            rw [hbox, if_neg hb] at this
            exact this.relab (k, [i]) (fun b hb => ⟨okb2 hb, rfl⟩) (fun b q hq => ⟨(hown b _).2 hq, rfl⟩) (fun b q hq => (hown b _).1 hq)
      · split at hcs
        · rename_i hb; rw [hbox, hb] at h1; cases h1
        · exact .inr ⟨by rw [← hbox]; exact h1, by rw [← hcs]; exact h2, fun b hb => h3 b ((hown b []).1 hb)⟩
  · intro b q p hb
    obtain ⟨k, r, e, hk, ho⟩ := ownRet_inv hb
    have e : q = k := by omega
    subst e
    obtain ⟨h1, h2, _⟩ := hs.lab b r p ho
    obtain ⟨x, hx⟩ := at_of_len hrl hk
    have := hrt q _ _ hk hx
    cases x with
    | none => exact this.elim
    | some R2 => exact ⟨h1, h2, R2, hx⟩
  · intro b b' l h h'
    obtain ⟨q, p⟩ := l
    obtain ⟨k, r, e, hk, ho⟩ := ownRet_inv h
    obtain ⟨k', r', e', hk', ho'⟩ := ownRet_inv h'
    have : k = k' := by omega
    subst this
    rw [hk] at hk'
    simp only [Option.some.injEq] at hk'
    subst hk'
    exact hs.inj b b' _ ho ho'
  · exact BelowD.to sig (fun r hr => keepOk_spec kp hkeep r hr) (by have := w0.hk p hp; rw [hkp] at this; exact this) _ (hs.susp p hp)

end
end Go.Vm
