/- What a function returns; from obligations to a contract. -/
import Derived.Test.YthpbaehnkmmkgaaGreatVm22
import Derived.IntWalk
import Derived.ProofKit
import Derived.Test.YthpbaehnkmmkgaaGreatAlg7

set_option linter.unusedVariables false
set_option linter.unusedSimpArgs false
set_option linter.unusedSectionVars false
namespace Go.Vm
open Go Go.RowKit

inductive PlainD : D → Prop
  | undef : PlainD .undef
  | kb (b : Bool) : PlainD (.kb b)
  | lit (v : Value) : PlainD (.lit v)
  | list (sz : Nat) (cs : List D) (h : ∀ x ∈ cs, PlainD x) : PlainD (.list true sz cs)

def retOne (rt : RT) (d : D) (K : D → Option Lab → Prop) : Prop :=
  match d with
  | .kb b => K (.lit (.bool b)) none
  | .lit v => K (.lit v) none
  | .fn f [] [] => K (.fn f [] []) none
  | .ref r [] sz 0 m => match rt r with
    | some (some ⟨false, s, cs⟩) => chk (Nat.beq s sz && !(Nat.beq sz 0)) (m * sz = cs.length ∧ (∀ x ∈ cs, PlainD x) ∧ K (.list true sz cs) (some (r, [])))
    | _ => False
  | .ref r (i :: p) sz 0 m => match rt r with
    | some (some ⟨false, _, cs⟩) => chk (!(Nat.beq sz 0)) (∃ c, getB cs (i :: p) = some c ∧ m * sz = c.length ∧ (∀ x ∈ c, PlainD x) ∧ K (.list true sz c) (some (r, i :: p)))
    | _ => False
  | _ => False
def retL (rt : RT) : List D → (List D → List (Option Lab) → Prop) → Prop
  | [], K => K [] []
  | d :: ds, K => retOne rt d fun d s => retL rt ds fun ds ss => K (d :: ds) (s :: ss)
def retC (rt : RT) (d : D) (K : D → List (Option Lab) → Prop) : Prop :=
  match d with
  | .agg ds => retL rt ds fun ds ss => K (.agg ds) ss
  | d => retOne rt d fun d s => K d [s]
def retT (rt : RT) : List D → (List D → List (Option Lab) → Prop) → Prop
  | [], K => K [] []
  | d :: ds, K => retC rt d fun d s => retT rt ds fun ds ss => K (d :: ds) (s ++ ss)
def distinctL : List (Option Lab) → Bool
  | [] => true
  | none :: l => distinctL l
  | some r :: l => !(l.any fun x => match x with | some s => Nat.beq r.1 s.1 | none => false) && distinctL l
def retK (rt : RT) (d : D) (K : D → Prop) : Prop :=
  match d with
  | .tup ds => retT rt ds fun ds ss => chk (distinctL ss) (K (.tup ds))
  | d => retC rt d fun d ss => chk (distinctL ss) (K d)

inductive One (rt : RT) : D → D → Option Lab → Prop
  | kb (b : Bool) : One rt (.kb b) (.lit (.bool b)) none
  | lit (v : Value) : One rt (.lit v) (.lit v) none
  | fn (f : Fn) : One rt (.fn f [] []) (.fn f [] []) none
  | ref (r : Nat) (p : List Nat) (sz m : Nat) (R : Root) (cs : List D) (hr : rt r = some (some R)) (hbox : R.box = false) (hg : getB R.cs p = some cs) (hz : sz ≠ 0) (hm : m * sz = cs.length) (hp : ∀ x ∈ cs, PlainD x) : One rt (.ref r p sz 0 m) (.list true sz cs) (some (r, p))

theorem retOne_rel {rt : RT} {d : D} {K : D → Option Lab → Prop} (h : retOne rt d K) : ∃ d' s, K d' s ∧ One rt d d' s := by
  unfold retOne at h
  split at h
  · exact ⟨_, _, h, .kb _⟩
  · exact ⟨_, _, h, .lit _⟩
  · exact ⟨_, _, h, .fn _⟩
  · split at h
    · rename_i r sz m s cs hr
      have h1 := chk_and h
      simp only [Bool.and_eq_true, Nat.beq_eq, Bool.not_eq_true'] at h1
      obtain ⟨⟨e, hz⟩, hm, hp, hk⟩ := h1
      subst e
      have hz : s ≠ 0 := fun e => by rw [e] at hz; cases hz
      exact ⟨_, _, hk, .ref _ _ _ _ _ _ hr rfl rfl hz hm hp⟩
    · exact h.elim
  · split at h
    · rename_i r i p sz m x s cs hr
      have h1 := chk_and h
      simp only [Bool.not_eq_true'] at h1
      obtain ⟨hz, c, hg, hm, hp, hk⟩ := h1
      have hz : sz ≠ 0 := fun e => by rw [e] at hz; cases hz
      exact ⟨_, _, hk, .ref _ _ _ _ _ _ hr rfl hg hz hm hp⟩
    · exact h.elim
  · exact h.elim

inductive OneL (rt : RT) : List D → List D → List (Option Lab) → Prop
  | nil : OneL rt [] [] []
  | cons {d d' s ds ds' ss} (h : One rt d d' s) (t : OneL rt ds ds' ss) : OneL rt (d :: ds) (d' :: ds') (s :: ss)

theorem retL_rel {rt : RT} : ∀ (ds : List D) (K : List D → List (Option Lab) → Prop), retL rt ds K → ∃ ds' ss, K ds' ss ∧ OneL rt ds ds' ss
  | [], _, h => ⟨_, _, h, .nil⟩
  | d :: ds, K, h => by
    obtain ⟨d', s, h1, h2⟩ := retOne_rel h
    obtain ⟨ds', ss, h3, h4⟩ := retL_rel ds _ h1
    exact ⟨_, _, h3, .cons h2 h4⟩

inductive OneC (rt : RT) : D → D → List (Option Lab) → Prop
  | one {d d' s} (h : One rt d d' s) : OneC rt d d' [s]
  | agg {ds ds' ss} (h : OneL rt ds ds' ss) : OneC rt (.agg ds) (.agg ds') ss

theorem retC_rel {rt : RT} {d : D} {K : D → List (Option Lab) → Prop} (h : retC rt d K) : ∃ d' s, K d' s ∧ OneC rt d d' s := by
  unfold retC at h
  split at h
  · obtain ⟨ds', ss, h1, h2⟩ := retL_rel _ _ h
    exact ⟨_, _, h1, .agg h2⟩
  · obtain ⟨d', s, h1, h2⟩ := retOne_rel h
    exact ⟨_, _, h1, .one h2⟩

inductive OneT (rt : RT) : List D → List D → List (Option Lab) → Prop
  | nil : OneT rt [] [] []
  | cons {d d' s ds ds' ss} (h : OneC rt d d' s) (t : OneT rt ds ds' ss) : OneT rt (d :: ds) (d' :: ds') (s ++ ss)

theorem retT_rel {rt : RT} : ∀ (ds : List D) (K : List D → List (Option Lab) → Prop), retT rt ds K → ∃ ds' ss, K ds' ss ∧ OneT rt ds ds' ss
  | [], _, h => ⟨_, _, h, .nil⟩
  | d :: ds, K, h => by
    obtain ⟨d', s, h1, h2⟩ := retC_rel h
    obtain ⟨ds', ss, h3, h4⟩ := retT_rel ds _ h1
    exact ⟨_, _, h3, .cons h2 h4⟩

section
variable {w : World} {ok ok' : Nat → Prop} {own own' : Nat → Option Lab} {rt RT' : RT}

end

def distinct : List (Option Nat) → Bool
  | [] => true
  | none :: l => distinct l
  | some r :: l => !(l.any fun x => match x with | some s => Nat.beq r s | none => false) && distinct l

def posIn : List (Option Nat) → Nat → Option Nat
  | [], _ => none
  | none :: l, r => (posIn l r).map (· + 1)
  | some s :: l, r => if r = s then some 0 else (posIn l r).map (· + 1)

theorem posIn_some : ∀ (l : List (Option Nat)) (r k : Nat), posIn l r = some k → l[k]? = some (some r)
  | [], _, _, h => by simp [posIn] at h
  | none :: l, r, k, h => by
    simp only [posIn, Option.map_eq_some_iff] at h
    obtain ⟨j, h1, rfl⟩ := h
    simpa using posIn_some l r j h1
  | some s :: l, r, k, h => by
    simp only [posIn] at h
    split at h
    · rename_i e; subst e; cases h; rfl
    · simp only [Option.map_eq_some_iff] at h
      obtain ⟨j, h1, rfl⟩ := h
      simpa using posIn_some l r j h1

theorem posIn_of : ∀ (l : List (Option Nat)) (r k : Nat), distinct l = true → l[k]? = some (some r) → posIn l r = some k
  | [], _, _, _, h => by simp at h
  | none :: l, r, 0, _, h => by simp at h
  | none :: l, r, k + 1, hd, h => by
    simp only [posIn]
    rw [posIn_of l r k hd (by simpa using h)]; rfl
  | some s :: l, r, 0, _, h => by
    have : s = r := by simpa using h
    subst this; simp [posIn]
  | some s :: l, r, k + 1, hd, h => by
    simp only [distinct, Bool.and_eq_true, Bool.not_eq_true', List.any_eq_false] at hd
    have hm : l[k]? = some (some r) := by simpa using h
    have hne : r ≠ s := fun e => by
      have := hd.1 _ (List.mem_of_getElem? hm)
      simp [e] at this
    simp only [posIn]
    rw [if_neg hne, posIn_of l r k hd.2 hm]; rfl

def ownRet (own : Nat → Option Lab) (ss : List (Option Nat)) (n : Nat) : Nat → Option Lab := fun b =>
  match own b with
  | some (r, p) => match posIn ss r with
    | some k => some (n + k, p)
    | none => none
  | none => none

theorem ownRet_iff {own : Nat → Option Lab} {ss : List (Option Nat)} {n : Nat} (hd : distinct ss = true) {k r : Nat} (h : ss[k]? = some (some r)) (b : Nat) (p : List Nat) : ownRet own ss n b = some (n + k, p) ↔ own b = some (r, p) := by
  unfold ownRet
  constructor
  · intro h1
    split at h1
    · rename_i r' p' he
      split at h1
      · rename_i j hj
        simp only [Option.some.injEq, Prod.mk.injEq] at h1
        obtain ⟨e1, e2⟩ := h1
        have : j = k := by omega
        subst this; subst e2
        have := posIn_some _ _ _ hj
        rw [h] at this
        simp only [Option.some.injEq] at this
        rw [he, this]
      · cases h1
    · cases h1
  · intro h1
    rw [h1]
    simp only [posIn_of ss r k hd h]

theorem ownRet_inv {own : Nat → Option Lab} {ss : List (Option Nat)} {n : Nat} {b q : Nat} {p : List Nat} (h : ownRet own ss n b = some (q, p)) : ∃ k r, q = n + k ∧ ss[k]? = some (some r) ∧ own b = some (r, p) := by
  unfold ownRet at h
  split at h
  · rename_i r' p' he
    split at h
    · rename_i j hj
      simp only [Option.some.injEq, Prod.mk.injEq] at h
      obtain ⟨e1, e2⟩ := h
      subst e2
      exact ⟨j, r', e1.symm, posIn_some _ _ _ hj, he⟩
    · cases h
  · cases h


def posInL : List (Option Lab) → Nat → Option (Nat × List Nat)
  | [], _ => none
  | none :: l, r => (posInL l r).map fun x => (x.1 + 1, x.2)
  | some s :: l, r => if r = s.1 then some (0, s.2) else (posInL l r).map fun x => (x.1 + 1, x.2)

theorem posIn_someL : ∀ (l : List (Option Lab)) (r k : Nat) (p : List Nat), posInL l r = some (k, p) → l[k]? = some (some (r, p))
  | [], _, _, _, h => by simp [posInL] at h
  | none :: l, r, k, p, h => by
    simp only [posInL, Option.map_eq_some_iff] at h
    obtain ⟨⟨j, p'⟩, h1, h2⟩ := h
    cases h2
    simpa using posIn_someL l r j p' h1
  | some s :: l, r, k, p, h => by
    simp only [posInL] at h
    split at h
    · rename_i e; subst e; cases h; rfl
    · simp only [Option.map_eq_some_iff] at h
      obtain ⟨⟨j, p'⟩, h1, h2⟩ := h
      cases h2
      simpa using posIn_someL l r j p' h1

theorem posIn_ofL : ∀ (l : List (Option Lab)) (r k : Nat) (p : List Nat), distinctL l = true → l[k]? = some (some (r, p)) → posInL l r = some (k, p)
  | [], _, _, _, _, h => by simp at h
  | none :: l, r, 0, _, _, h => by simp at h
  | none :: l, r, k + 1, p, hd, h => by
    simp only [posInL]
    rw [posIn_ofL l r k p hd (by simpa using h)]; rfl
  | some s :: l, r, 0, p, _, h => by
    have : s = (r, p) := by simpa using h
    subst this; simp [posInL]
  | some s :: l, r, k + 1, p, hd, h => by
    simp only [distinctL, Bool.and_eq_true, Bool.not_eq_true', List.any_eq_false] at hd
    have hm : l[k]? = some (some (r, p)) := by simpa using h
    have hne : r ≠ s.1 := fun e => by
      have := hd.1 _ (List.mem_of_getElem? hm)
      simp [e] at this
    simp only [posInL]
    rw [if_neg hne, posIn_ofL l r k p hd.2 hm]; rfl

def strip : List Nat → List Nat → Option (List Nat)
  | [], p => some p
  | _ :: _, [] => none
  | i :: q, j :: p => if i = j then strip q p else none
theorem strip_iff : ∀ (q p r : List Nat), strip q p = some r ↔ p = q ++ r
  | [], p, r => by simp [strip]
  | i :: q, [], r => by simp [strip]
  | i :: q, j :: p, r => by
    simp only [strip]
    split
    · rename_i e; subst e; rw [strip_iff q p r]; simp
    · rename_i e
      constructor
      · intro h; cases h
      · intro h; simp only [List.cons_append, List.cons.injEq] at h; exact absurd h.1.symm e

def ownRetL (own : Nat → Option Lab) (ss : List (Option Lab)) (n : Nat) : Nat → Option Lab := fun b =>
  match own b with
  | some (r, p) => match posInL ss r with
    | some (k, p0) => match strip p0 p with
      | some q => some (n + k, q)
      | none => none
    | none => none
  | none => none

theorem ownRet_invL {own : Nat → Option Lab} {ss : List (Option Lab)} {n : Nat} {b q : Nat} {p : List Nat} (h : ownRetL own ss n b = some (q, p)) : ∃ k l, q = n + k ∧ ss[k]? = some (some l) ∧ own b = some (l.1, l.2 ++ p) := by
  unfold ownRetL at h
  split at h
  · rename_i r' p' he
    split at h
    · rename_i j p0 hj
      split at h
      · rename_i q' hq
        simp only [Option.some.injEq, Prod.mk.injEq] at h
        obtain ⟨e1, e2⟩ := h
        subst e2
        exact ⟨j, (r', p0), e1.symm, posIn_someL _ _ _ _ hj, by rw [he, (strip_iff _ _ _).1 hq]⟩
      · cases h
    · cases h
  · cases h

theorem ownRet_iffL {own : Nat → Option Lab} {ss : List (Option Lab)} {n : Nat} (hd : distinctL ss = true) {k : Nat} {l : Lab} (h : ss[k]? = some (some l)) (b : Nat) (p : List Nat) : ownRetL own ss n b = some (n + k, p) ↔ own b = some (l.1, l.2 ++ p) := by
  constructor
  · intro h1
    obtain ⟨j, l', e, hj, ho⟩ := ownRet_invL h1
    have : j = k := by omega
    subst this
    rw [h] at hj
    simp only [Option.some.injEq] at hj
    rw [ho, hj]
  · intro h1
    unfold ownRetL
    rw [h1]
    simp only [posIn_ofL ss l.1 k l.2 hd h, (strip_iff l.2 (l.2 ++ p) p).2 rfl]

theorem listRT_at {n k : Nat} {L : List (Option Root)} : listRT n L (n + k) = L[k]? := by
  unfold listRT; rw [if_pos (by omega)]; congr 1; omega

theorem resOk_of {w0 : Base} {env : Nat → D} {tm : Nat → Value} {w : World} {own : Nat → Option Lab} {rt : RT} (hs : Sim w0 env rt tm w own) (htop : ∀ b, b < w0.heap.size → w0.prot b) {ss : List (Option Lab)} {n : Nat} {rs : D} {v : Value}
    (hd : distinctL ss = true) (hsrc : Src rt ss (openD n rs).2)
    (hmt : Lbl own (ownRetL own ss n) (listRT n (openD n rs).2) ss n → Mt w (okn w0.toWorld w (ownRetL own ss n)) (ownRetL own ss n) (listRT n (openD n rs).2) (openD n rs).1 v) : ResOk w0.toWorld w n rs v := by
  refine ⟨ownRetL own ss n, ?_, ?_, ?_, ?_⟩
  · intro b q p h
    obtain ⟨k, r, rfl, hk, ho⟩ := ownRet_invL h
    obtain ⟨h1, h2, _⟩ := hs.lab b r.1 (r.2 ++ p) ho
    obtain ⟨R, R0, hR, hR0, _⟩ := hsrc.2.2 k r hk
    refine ⟨?_, h2, R, by rw [listRT_at]; exact hR⟩
    rcases Nat.lt_or_ge b w0.heap.size with hlt | hge
    · have := h1 (htop b hlt); rw [hR0] at this; cases this
    · exact hge
  · intro b b' l h h'
    obtain ⟨q, p⟩ := l
    obtain ⟨k, r, rfl, hk, ho⟩ := ownRet_invL h
    obtain ⟨k', r', e, hk', ho'⟩ := ownRet_invL h'
    have : k = k' := by omega
    subst this
    rw [hk] at hk'
    simp only [Option.some.injEq] at hk'
    subst hk'
    exact hs.inj b b' _ ho ho'
  · intro q R h
    have hq : n ≤ q := by
      unfold listRT at h; split at h
      · assumption
      · cases h
    obtain ⟨k, rfl⟩ : ∃ k, q = n + k := ⟨q - n, by omega⟩
    rw [listRT_at] at h
    have hlt : k < ss.length := by
      rw [← hsrc.1]
      rcases Nat.lt_or_ge k (openD n rs).2.length with h' | h'
      · exact h'
      · rw [List.getElem?_eq_none h'] at h; cases h
    cases hk : ss[k] with
    | none =>
      have := hsrc.2.1 k (by rw [List.getElem?_eq_getElem hlt, hk])
      rw [h] at this; cases this
    | some r =>
      have hk' : ss[k]? = some (some r) := by rw [List.getElem?_eq_getElem hlt, hk]
      obtain ⟨R', R0, hR', hrt, hbox0, hg, hbox, hpl⟩ := hsrc.2.2 k r hk'
      rw [h] at hR'
      simp only [Option.some.injEq] at hR'
      subst hR'
      refine ⟨hbox, ?_⟩
      have hiff := fun b p => ownRet_iffL (own := own) (n := n) hd hk' b p
      have hblk : (∃ b, Blk w (okb w own) own r.1 r.2 b R.cs) ∨ (R.cs = [] ∧ ∀ b, own b ≠ some (r.1, r.2)) := by
        rcases hs.roots r.1 R0 hrt with ⟨b, arr, e, k1, k2, k3, k4⟩ | ⟨_, k2, k3⟩
        · have hb : Blk w (okb w own) own r.1 [] b R0.cs := ⟨arr, e, k1, k2, k3, fun i d v hi hv => by
            have := k4 i d v hi hv; unfold CellOk at this; rw [hbox0] at this; simpa using this⟩
          simpa using Blk.get r.2 [] b R0.cs R.cs hb hg
        · rw [k2] at hg
          cases hp : r.2 with
          | nil => rw [hp] at hg; simp only [getB, Option.some.injEq] at hg; exact .inr ⟨hg.symm, k3⟩
          | cons i q => rw [hp] at hg; simp [getB] at hg
      rcases hblk with ⟨b, arr, e, h1, h2, h3, h4⟩ | ⟨h2, h3⟩
      · refine .inl ⟨b, arr, e, (hiff b []).2 (by simpa using h1), h2, h3, fun i d v hdi hv => ?_⟩
        have := h4 i d v hdi hv
        unfold CellOk
        rw [hbox]
        simp only [Bool.false_eq_true, if_false]
        exact this.plain (hpl d (List.mem_of_getElem? hdi)) _ (fun b q => by simpa using (hiff b (i :: q)).symm)
      · exact .inr ⟨hbox, h2, fun b hb => h3 b (by simpa using (hiff b []).1 hb)⟩
  · refine hmt fun k r hk => ?_
    obtain ⟨R, _, hR, _⟩ := hsrc.2.2 k r hk
    refine ⟨by rw [listRT_at, hR]; simp, fun b p => ownRet_iffL hd hk b p⟩

theorem retK_sound {w0 : Base} {env : Nat → D} {tm : Nat → Value} {w : World} {own : Nat → Option Lab} {rt : RT} (hs : Sim w0 env rt tm w own) (htop : ∀ b, b < w0.heap.size → w0.prot b) {d : D} {v : Value} {K : D → Prop} (hm : Mt w (okb w own) own rt d v) (h : retK rt d K) :
    ∃ rs, K rs ∧ ∀ n, ResOk w0.toWorld w n rs v := by
  unfold retK at h
  split at h
  · rename_i ds
    obtain ⟨ds', ss, h1, h2⟩ := retT_rel _ _ h
    have h1 := chk_and h1
    refine ⟨_, h1.2, fun n => resOk_of hs htop h1.1 (h2.src n) fun hl => ?_⟩
    obtain ⟨vs, hv, hlen, hr⟩ := hm.tup_inv
    subst hv
    obtain ⟨k1, k2⟩ := h2.mt (w := w) (ok := okb w own) (ok' := okn w0.toWorld w (ownRetL own ss n)) (own := own) hl
    exact .tup _ vs (by rw [hlen]; exact k1.symm) (fun i d v hd hv => k2 i d v hd (fun d0 h0 => hr i d0 v h0 hv))
  · rename_i hnt
    obtain ⟨d', ss, h1, h2⟩ := retC_rel h
    have h1 := chk_and h1
    have e : ∀ n, openD n d' = openC n d' := fun n => by
      cases h2 with
      | one h => cases h <;> rfl
      | agg h => rfl
    refine ⟨_, h1.2, fun n => resOk_of hs htop h1.1 (by rw [e]; exact h2.src n) fun hl => ?_⟩
    rw [e] at hl ⊢
    exact h2.mt hm hl

theorem pure_of_vc {P : Program} {T : Tab} (hT : TabOk P T) (hmo : P.follows .mixedOrders = true) {f : FuncId} {fn : Func} {c : Code} {args : List D} {rs : D} (hfn : P.funcs[f]? = some fn) (hb : fn.body = some c)
    (hname : (fn.name == "runtime.NumGoroutine") = false)
    (h : vc P T 0 c (fun e st' => (e = .ret ∨ e = .normal) ∧ resuK T st'.env (rtOf st'.rt) fn.results.toList fun ds => retK (rtOf st'.rt) (oneD ds) fun rs' => rs' = rs)
      ⟨args ++ List.replicate (fn.ntmps - args.length) .undef, []⟩) : PureCall P f args rs := by
  intro w vals n hsz hargs
  refine .inl ⟨fn, hfn, hname, by rw [hb]; rfl, calls_of_wp hfn hb ?_⟩
  let w0 : Base := { toWorld := w, prot := fun b => b < w.heap.size, hp := fun _ h => h, hid := fun _ => False, hh := fun _ h => h.elim, hl := fun _ => (0, []), susp := fun _ _ => False, keep := 0, hk := fun _ _ h => h.elim, hlk := fun _ h => h.elim }
  let a1 : Act := { tmps := vals ++ Array.replicate (fn.ntmps - vals.size) Go.undef, defers := [] }
  have hfit : Fits w0 ⟨args ++ List.replicate (fn.ntmps - args.length) .undef, []⟩ a1 w := by
    refine ⟨fun _ => none, rfl, by simp [a1, hsz], ⟨Kept.refl _ _, fun i => ?_, fun r R h => by simp [rtOf] at h, fun b r p h => by simp at h, fun b hb => hb.elim, fun b b' l h => by simp at h, fun d v hp => hp.elim⟩⟩
    show Mt w _ _ _ ((args ++ List.replicate (fn.ntmps - args.length) D.undef).getD i D.undef) (a1.tmps.getD i Go.undef)
    rw [List.getD_eq_getElem?_getD]
    by_cases hi : i < args.length
    · rw [List.getElem?_append_left hi, List.getElem?_eq_getElem hi, Option.getD_some]
      have hi2 : i < vals.size := by rw [hsz]; exact hi
      have e1 : a1.tmps.getD i Go.undef = vals[i] := by
        simp only [a1, Array.getD_eq_getD_getElem?]
        rw [Array.getElem?_append_left hi2, Array.getElem?_eq_getElem hi2]; rfl
      rw [e1]
      exact .sh _ _ ((hargs i _ _ (List.getElem?_eq_getElem hi) (Array.getElem?_eq_getElem hi2)).frame (fun b hb => ⟨⟨rfl, hb⟩, rfl⟩))
    · rw [List.getElem?_append_right (by omega), List.getElem?_replicate]
      split <;> exact .undef _
  refine wp_mono (vc_sound hT hmo c _ _ h w0 a1 w rfl hfit) (fun e a' w' hpost => ?_)
  obtain ⟨st', ⟨own', hd', hl', hs'⟩, he, hres⟩ := hpost
  have hres' : ∃ d v, retK (rtOf st'.rt) d (fun rs' => rs' = rs) ∧ Mt w' (okb w' own') own' (rtOf st'.rt) d v ∧ (results fn a'.tmps).run P w' = .ok v w' := by
    obtain ⟨ds, vs, h1, h2, h3, h4, h5⟩ := resu_sound (P := P) hT hs' _ _ hres
    refine ⟨oneD ds, if h : vs.toArray.size = 1 then vs.toArray[0] else .tuple vs.toArray, h1, ?_, ?_⟩
    · by_cases hl : vs.length = 1
      · obtain ⟨v, rfl⟩ := List.length_eq_one_iff.1 hl
        obtain ⟨d, rfl⟩ := List.length_eq_one_iff.1 (show ds.length = 1 by rw [h3, ← h2]; rfl)
        exact h4 0 d v rfl rfl
      · have e1 : oneD ds = .tup ds := by
          match ds, h3 with
          | [], _ => rfl
          | [d], h3 => exact absurd (by rw [h2, ← h3]; rfl) hl
          | _ :: _ :: _, _ => rfl
        rw [e1, dif_neg (by simpa using hl)]
        exact .tup _ _ (by simp [h2, h3]) (fun i d v k1 k2 => h4 i d v k1 (by simpa using k2))
    · rw [results_eq, Array.mapM_eq_mapM_toList]
      simp [Sem.run_bind, h5]
  obtain ⟨d, v, hk, hm, hr⟩ := hres'
  obtain ⟨rs', e, hrn⟩ := retK_sound hs' (fun _ h => h) hm hk
  subst e
  have hfin : (∃ v', Ending.returned v = .returned v' ∧ Below w.heap.size w w' ∧ ResOk w w' n rs' v') := ⟨v, rfl, hs'.below.below (fun _ h => h), hrn n⟩
  rcases he with rfl | rfl
  · exact ⟨hd', v, hr, hfin⟩
  · exact ⟨hd', v, hr, hfin⟩

end Go.Vm

/- A state that says less: roots under other names, what is needless forgotten. -/
set_option linter.unusedVariables false
set_option linter.unusedSimpArgs false
set_option linter.unusedSectionVars false
namespace Go.Vm
open Go Go.RowKit

def wkLg (f : D → D → Prop → Prop) : List D → List D → Prop → Prop
  | [], [], K => K
  | d2 :: ds2, d :: ds, K => f d2 d (wkLg f ds2 ds K)
  | _, _, _ => False
def wkRoots (σ : List (Option Nat)) (rt : List (Option Root)) : List (Option Nat) → List (Option Root) → Prop → Prop
  | [], [], K => K
  | s :: ss, x2 :: xs, K => match s, x2 with
    | some r, some ⟨true, sz, cs⟩ => match rt[r]? with
      | some (some ⟨true, sz', cs'⟩) => chk (Nat.beq sz' sz) (wkL σ cs cs' (wkRoots σ rt ss xs K))
      | _ => False
    | some r, some ⟨false, sz, cs⟩ => match rt[r]? with
      | some (some ⟨false, sz', cs'⟩) => chk (Nat.beq sz' sz) (cs' = cs ∧ wkRoots σ rt ss xs K)
      | _ => False
    | none, some ⟨false, _, []⟩ => wkRoots σ rt ss xs K
    | none, none => wkRoots σ rt ss xs K
    | _, _ => False
  | _, _, _ => False
def keepOk (σ : List (Option Nat)) (rt2 : List (Option Root)) : Nat → Bool
  | 0 => true
  | r + 1 => (match σ[r]? with
    | some (some r') => Nat.beq r r'
    | some none => match rt2[r]? with
      | some none => true
      | _ => false
    | none => false) && keepOk σ rt2 r

def weakK (kp : Nat) (σ : List (Option Nat)) (st st2 : St) : Prop :=
  chk (distinct σ && keepOk σ st2.rt kp) (wkL σ st2.env st.env (wkRoots σ st.rt σ st2.rt True))

theorem eqV_eq {u v : Value} (h : eqV u v) : u = v := by
  unfold eqV at h
  split at h
  · have h1 := chk_and h; rw [ikEq_eq h1.1, h1.2]
  · rw [h]
  · exact h

def own2 (own : Nat → Option Lab) (σ : List (Option Nat)) : Nat → Option Lab := ownRet own σ 0

section
variable {σ : List (Option Nat)} {w : World} {own : Nat → Option Lab} {rt rt2 : RT}

structure SigOk (σ : List (Option Nat)) (own ow2 : Nat → Option Lab) (rt rt2 : RT) : Prop where
  free : ∀ b, own b = none → ow2 b = none
  live : ∀ (k r : Nat), σ[k]? = some (some r) → rt2 k ≠ none ∧ (∃ R, rt r = some (some R)) ∧ ∀ b p, ow2 b = some (k, p) ↔ own b = some (r, p)
  path : ∀ (k r : Nat) R R2 p, σ[k]? = some (some r) → rt r = some (some R) → rt2 k = some (some R2) → Vp R p → Vp R2 p
  fresh : ∀ k : Nat, σ[k]? = some none → rt2 k ≠ none ∧ ∀ R, rt2 k = some (some R) → ∀ b p, ow2 b ≠ some (k, p)

def MtTo (σ : List (Option Nat)) (d2 d : D) : Prop := ∀ (w : World) (own ow2 : Nat → Option Lab) (rt rt2 : RT), SigOk σ own ow2 rt rt2 → ∀ v, Mt w (okb w own) own rt d v → Mt w (okb w ow2) ow2 rt2 d2 v

theorem wk1_sound {d2 d : D} {K : Prop} (h : wk1 σ d2 d K) : K ∧ MtTo σ d2 d := by
  unfold wk1 at h
  split at h
  · exact ⟨h, fun w own ow2 rt rt2 hs v _ => .undef v⟩
  · split at h
    · obtain ⟨e, hk⟩ := h; subst e
      exact ⟨hk, fun w own ow2 rt rt2 hs v hm => by rw [hm.kb_inv]; exact .sh _ _ (.kb _)⟩
    · exact h.elim
  · split at h
    · obtain ⟨e, hk⟩ := h; have e := eqV_eq e; subst e
      exact ⟨hk, fun w own ow2 rt rt2 hs v hm => by rw [hm.lit_inv]; exact .sh _ _ (.lit _)⟩
    · obtain ⟨e, hk⟩ := h; have e := eqV_eq e; subst e
      exact ⟨hk, fun w own ow2 rt rt2 hs v hm => by rw [hm.kb_inv]; exact .sh _ _ (.lit _)⟩
    · exact h.elim
  · split at h
    · obtain ⟨e1, e2, e3, hk⟩ := h; subst e1; subst e2; subst e3
      exact ⟨hk, fun w own ow2 rt rt2 hs v hm => hm.list_inv.two hs⟩
    · exact h.elim
  · split at h
    · obtain ⟨e1, e2, hk⟩ := h; subst e1; subst e2
      exact ⟨hk, fun w own ow2 rt rt2 hs v hm => hm.cptr_inv.two hs⟩
    · exact h.elim
  · rename_i k p sz off n
    split at h
    · rename_i r p' sz' off' n'
      split at h
      · rename_i r' hσ
        have h1 := chk_and h
        obtain ⟨e0, e1, e2, e3, e4, hk⟩ := h1
        rw [Nat.beq_eq] at e0; subst e0; subst e1; subst e2; subst e3; subst e4
        refine ⟨hk, fun w own ow2 rt rt2 hs v hm => ?_⟩
        obtain ⟨h0, ⟨R, hR⟩, hown⟩ := hs.live _ _ hσ
        have hone : v.oneCell' = true := by
          cases hm with
          | ref _ _ _ _ _ _ _ h1 _ => exact h1
          | sh _ _ h => cases h
        refine .ref _ _ _ _ _ _ h0 hone (fun R' hR' => ⟨hs.path _ _ R R' _ hσ hR hR' (hm.ref_path R hR), ?_⟩)
        rcases hm.ref_inv.2 R hR with ⟨b, arr, e, cap, o, hb, hw, hv, hnc, hc, ho⟩ | ⟨hv, ho, hn, hb⟩
        · exact .inl ⟨b, arr, e, cap, o, (hown b _).2 hb, hw, hv, hnc, hc, ho⟩
        · exact .inr ⟨hv, ho, hn, fun b hb' => hb b ((hown b _).1 hb')⟩
      · exact h.elim
    · split at h
      · rename_i hσ
        obtain ⟨e1, e2, e3, hk⟩ := h; subst e1; subst e2; subst e3
        refine ⟨hk, fun w own ow2 rt rt2 hs v hm => ?_⟩
        have := hm.lit_inv
        subst this
        obtain ⟨h0, hno⟩ := hs.fresh _ hσ
        exact .ref _ _ _ _ _ _ h0 rfl (fun R' hR' => ⟨.inl rfl, .inr ⟨rfl, rfl, rfl, fun b => hno R' hR' b _⟩⟩)
      · exact h.elim
    · exact h.elim
  · split at h
    · split at h
      · rename_i r' hσ
        have h1 := chk_and h
        obtain ⟨e0, e1, e2, hk⟩ := h1
        rw [Nat.beq_eq] at e0; subst e0; subst e1; subst e2
        refine ⟨hk, fun w own ow2 rt rt2 hs v hm => ?_⟩
        obtain ⟨h0, ⟨R, hR⟩, hown⟩ := hs.live _ _ hσ
        have hone : v.oneCell' = true := by
          cases hm with
          | ptr _ _ _ _ _ h1 _ => exact h1
          | sh _ _ h => cases h
        refine .ptr _ _ _ _ h0 hone (fun R' hR' => ?_)
        obtain ⟨b, arr, e, hb, hw, hv⟩ := hm.ptr_inv.2 R hR
        exact ⟨hs.path _ _ R R' _ hσ hR hR' (hm.ptr_path R hR), b, arr, e, (hown b _).2 hb, hw, hv⟩
      · exact h.elim
    · exact h.elim
  · exact h.elim

theorem wkLg_sound {f : D → D → Prop → Prop} (hf : ∀ d2 d K, f d2 d K → K ∧ MtTo σ d2 d) : ∀ (ds2 ds : List D) (K : Prop), wkLg f ds2 ds K → K ∧ ds2.length = ds.length ∧ ∀ (i : Nat) d2 d, ds2[i]? = some d2 → ds[i]? = some d → MtTo σ d2 d
  | [], [], _, h => ⟨h, rfl, fun i d2 d h => by simp at h⟩
  | d2 :: ds2, d :: ds, K, h => by
    obtain ⟨h1, h2⟩ := hf _ _ _ h
    obtain ⟨h3, h4, h5⟩ := wkLg_sound hf ds2 ds K h1
    refine ⟨h3, by simp [h4], fun i x y hx hy => ?_⟩
    cases i with
    | zero => simp at hx hy; subst hx; subst hy; exact h2
    | succ i => exact h5 i x y (by simpa using hx) (by simpa using hy)
  | [], _ :: _, _, h => h.elim
  | _ :: _, [], _, h => h.elim

theorem at_of_len {α β : Type} {l : List α} {m : List β} (h : l.length = m.length) {i : Nat} {x : α} (hx : l[i]? = some x) : ∃ y, m[i]? = some y := by
  have : i < l.length := by
    rcases Nat.lt_or_ge i l.length with h' | h'
    · exact h'
    · rw [List.getElem?_eq_none h'] at hx; cases hx
  exact ⟨m[i], List.getElem?_eq_getElem (by omega)⟩

theorem wkT_sound {f : D → D → Prop → Prop} (hf : ∀ d2 d K, f d2 d K → K ∧ MtTo σ d2 d) (d2 d : D) (K : Prop) (h : wkT f σ d2 d K) : K ∧ MtTo σ d2 d := by
  unfold wkT at h
  split at h
  · split at h
    · obtain ⟨h1, h2, h3⟩ := wkLg_sound hf _ _ _ h
      refine ⟨h1, fun w own ow2 rt rt2 hs v hm => ?_⟩
      obtain ⟨vs, hv, hl, hr⟩ := hm.agg_inv
      subst hv
      refine .agg _ _ (by rw [hl, h2]) (fun i d v hd hv => ?_)
      obtain ⟨y, hy⟩ := at_of_len h2 hd
      exact h3 i d y hd hy w own ow2 rt rt2 hs v (hr i y v hy hv)
    · exact h.elim
  · split at h
    · obtain ⟨h1, h2, h3⟩ := wkLg_sound hf _ _ _ h
      refine ⟨h1, fun w own ow2 rt rt2 hs v hm => ?_⟩
      obtain ⟨vs, hv, hl, hr⟩ := hm.tup_inv
      subst hv
      refine .tup _ _ (by rw [hl, h2]) (fun i d v hd hv => ?_)
      obtain ⟨y, hy⟩ := at_of_len h2 hd
      exact h3 i d y hd hy w own ow2 rt rt2 hs v (hr i y v hy hv)
    · exact h.elim
  · split at h
    · obtain ⟨e, h⟩ := h
      subst e
      obtain ⟨h0, k2, k3⟩ := wkLg_sound hf _ _ _ h
      obtain ⟨h1, h2, h3⟩ := wkLg_sound hf _ _ _ h0
      refine ⟨h1, fun w own ow2 rt rt2 hs v hm => ?_⟩
      obtain ⟨first, caps, hv, hl1, hl2, hr1, hr2⟩ := hm.fn_inv
      subst hv
      refine .fn _ _ _ _ _ (by rw [hl1, k2]) (by rw [hl2, h2]) (fun i d v hd hv => ?_) (fun i d v hd hv => ?_)
      · obtain ⟨y, hy⟩ := at_of_len k2 hd
        exact k3 i d y hd hy w own ow2 rt rt2 hs v (hr1 i y v hy hv)
      · obtain ⟨y, hy⟩ := at_of_len h2 hd
        exact h3 i d y hd hy w own ow2 rt rt2 hs v (hr2 i y v hy hv)
    · exact h.elim
  · exact wk1_sound h

theorem wkD_sound {d2 d : D} {K : Prop} (h : wkD σ d2 d K) : K ∧ MtTo σ d2 d :=
  wkT_sound (wkT_sound (wkT_sound (fun _ _ _ => wk1_sound))) _ _ _ h

theorem wkL_sound : ∀ (ds2 ds : List D) (K : Prop), wkL σ ds2 ds K → K ∧ ds2.length = ds.length ∧ ∀ (i : Nat) d2 d, ds2[i]? = some d2 → ds[i]? = some d → MtTo σ d2 d
  | [], [], _, h => ⟨h, rfl, fun i d2 d h => by simp at h⟩
  | d2 :: ds2, d :: ds, K, h => by
    obtain ⟨h1, h2⟩ := wkD_sound h
    obtain ⟨h3, h4, h5⟩ := wkL_sound ds2 ds K h1
    refine ⟨h3, by simp [h4], fun i x y hx hy => ?_⟩
    cases i with
    | zero => simp at hx hy; subst hx; subst hy; exact h2
    | succ i => exact h5 i x y (by simpa using hx) (by simpa using hy)
  | [], _ :: _, _, h => h.elim
  | _ :: _, [], _, h => h.elim

def RootTo (σ : List (Option Nat)) (rt : List (Option Root)) (s : Option Nat) (x : Option Root) : Prop :=
  match s, x with
  | some r, some R2 => ∃ R, rt[r]? = some (some R) ∧ R.box = R2.box ∧ if R2.box = true then R2.cs.length = R.cs.length ∧ ∀ (i : Nat) d2 d, R2.cs[i]? = some d2 → R.cs[i]? = some d → MtTo σ d2 d else R.cs = R2.cs
  | none, some R2 => R2.box = false ∧ R2.cs = []
  | none, none => True
  | some _, none => False

theorem wkRoots_sound {σ : List (Option Nat)} {rt : List (Option Root)} : ∀ (ss : List (Option Nat)) (xs : List (Option Root)) (K : Prop), wkRoots σ rt ss xs K →
    ss.length = xs.length ∧ ∀ (k : Nat) s x, ss[k]? = some s → xs[k]? = some x → RootTo σ rt s x
  | [], [], _, _ => ⟨rfl, fun k s x h => by simp at h⟩
  | s :: ss, x2 :: xs, K, h => by
    have both : RootTo σ rt s x2 ∧ ∃ K', wkRoots σ rt ss xs K' := by
      simp only [wkRoots] at h
      split at h
      · split at h
        · rename_i hr
          have h1 := chk_and h
          obtain ⟨h2, h3, h4⟩ := wkL_sound _ _ _ h1.2
          exact ⟨⟨_, hr, rfl, by rw [if_pos rfl]; exact ⟨h3, h4⟩⟩, _, h2⟩
        · exact h.elim
      · split at h
        · rename_i hr
          have h1 := chk_and h
          exact ⟨⟨_, hr, rfl, by rw [if_neg (by simp)]; exact h1.2.1⟩, _, h1.2.2⟩
        · exact h.elim
      · exact ⟨⟨rfl, rfl⟩, _, h⟩
      · exact ⟨trivial, _, h⟩
      · exact h.elim
    obtain ⟨h1, K', h2⟩ := both
    obtain ⟨h3, h4⟩ := wkRoots_sound ss xs K' h2
    refine ⟨by simp [h3], fun k y z hy hz => ?_⟩
    cases k with
    | zero => simp at hy hz; subst hy; subst hz; exact h1
    | succ k => exact h4 k y z (by simpa using hy) (by simpa using hz)
  | [], _ :: _, _, h => h.elim
  | _ :: _, [], _, h => h.elim

theorem keepOk_spec {σ : List (Option Nat)} {rt2 : List (Option Root)} : ∀ (kp : Nat), keepOk σ rt2 kp = true → ∀ r, r < kp → σ[r]? = some (some r) ∨ (σ[r]? = some none ∧ rt2[r]? = some none)
  | 0, _, r, hr => by omega
  | kp + 1, h, r, hr => by
    simp only [keepOk, Bool.and_eq_true] at h
    by_cases e : r = kp
    · subst e
      have h := h.1
      split at h
      · rename_i r' hσ; rw [Nat.beq_eq] at h; rw [hσ, ← h]; exact .inl rfl
      · rename_i hσ
        split at h
        · rename_i hx; exact .inr ⟨hσ, hx⟩
        · cases h
      · cases h
    · exact keepOk_spec kp h.2 r (by omega)

theorem BelowD.to {σ : List (Option Nat)} {kp : Nat} {w : World} {own ow2 : Nat → Option Lab} {rt rt2 : RT} (hs : SigOk σ own ow2 rt rt2)
    (hk : ∀ r, r < kp → σ[r]? = some (some r) ∨ (σ[r]? = some none ∧ rt2 r = some none)) {d : D} (h : BelowD kp d) :
    ∀ v, Mt w (okb w own) own rt d v → Mt w (okb w ow2) ow2 rt2 d v := by
  induction h with
  | undef => intro v _; exact .undef v
  | kb b => intro v hm; rw [hm.kb_inv]; exact .sh _ _ (.kb _)
  | lit u => intro v hm; rw [hm.lit_inv]; exact .sh _ _ (.lit _)
  | list => intro v hm; exact hm.list_inv.two hs
  | cptr => intro v hm; exact hm.cptr_inv.two hs
  | full => intro v hm; exact hm.full_inv.two hs
  | agg ds _ ih =>
    intro v hm
    obtain ⟨vs, hv, hl, hr⟩ := hm.agg_inv
    subst hv
    exact .agg _ _ hl (fun i d v hd hv => ih d (List.mem_of_getElem? hd) v (hr i d v hd hv))
  | tup ds _ ih =>
    intro v hm
    obtain ⟨vs, hv, hl, hr⟩ := hm.tup_inv
    subst hv
    exact .tup _ _ hl (fun i d v hd hv => ih d (List.mem_of_getElem? hd) v (hr i d v hd hv))
  | fn f fs cs _ _ ihf ih =>
    intro v hm
    obtain ⟨first, caps, hv, hl1, hl2, hr1, hr2⟩ := hm.fn_inv
    subst hv
    exact .fn _ _ _ _ _ hl1 hl2 (fun i d v hd hv => ihf d (List.mem_of_getElem? hd) v (hr1 i d v hd hv)) (fun i d v hd hv => ih d (List.mem_of_getElem? hd) v (hr2 i d v hd hv))
  | ref r p sz off m hr =>
    intro v hm
    have hone : v.oneCell' = true := by
      cases hm with
      | ref _ _ _ _ _ _ _ h1 _ => exact h1
      | sh _ _ h => cases h
    rcases hk r hr with hσ | ⟨hσ, hd⟩
    · obtain ⟨h0, ⟨R, hR⟩, hown⟩ := hs.live _ _ hσ
      refine .ref _ _ _ _ _ _ h0 hone (fun R' hR' => ⟨hs.path _ _ R R' _ hσ hR hR' (hm.ref_path R hR), ?_⟩)
      rcases hm.ref_inv.2 R hR with ⟨b, arr, e, cap, o, hb, hw, hv, hnc, hc, ho⟩ | ⟨hv, ho, hn, hb⟩
      · exact .inl ⟨b, arr, e, cap, o, (hown b _).2 hb, hw, hv, hnc, hc, ho⟩
      · exact .inr ⟨hv, ho, hn, fun b hb' => hb b ((hown b _).1 hb')⟩
    · refine .ref _ _ _ _ _ _ (by rw [hd]; simp) hone (fun R' h => by rw [hd] at h; cases h)
  | ptr r p off hr =>
    intro v hm
    have hone : v.oneCell' = true := by
      cases hm with
      | ptr _ _ _ _ _ h1 _ => exact h1
      | sh _ _ h => cases h
    rcases hk r hr with hσ | ⟨hσ, hd⟩
    · obtain ⟨h0, ⟨R, hR⟩, hown⟩ := hs.live _ _ hσ
      refine .ptr _ _ _ _ h0 hone (fun R' hR' => ?_)
      obtain ⟨b, arr, e, hb, hw, hv⟩ := hm.ptr_inv.2 R hR
      exact ⟨hs.path _ _ R R' _ hσ hR hR' (hm.ptr_path R hR), b, arr, e, (hown b _).2 hb, hw, hv⟩
    · refine .ptr _ _ _ _ (by rw [hd]; simp) hone (fun R' h => by rw [hd] at h; cases h)

theorem lt_of_at {α : Type} {l : List α} {i : Nat} {x : α} (hx : l[i]? = some x) : i < l.length := by
  rcases Nat.lt_or_ge i l.length with h' | h'
  · exact h'
  · rw [List.getElem?_eq_none h'] at hx; cases hx

open Classical in
noncomputable def own3 (w0 : Base) (own : Nat → Option Lab) (σ : List (Option Nat)) : Nat → Option Lab := fun b => if w0.hid b then own b else own2 own σ b
theorem own3_inv {w0 : Base} {env : Nat → D} {tm : Nat → Value} (hs : Sim w0 env rt tm w own) {b q : Nat} {p : List Nat} (h : own3 w0 own σ b = some (q, p)) : (w0.hid b ∧ own b = some (q, p) ∧ rt q = some none ∧ q < w0.keep) ∨ (∃ r, σ[q]? = some (some r) ∧ own b = some (r, p)) := by
  unfold own3 at h
  split at h
  · rename_i hb
    obtain ⟨h1, h2⟩ := hs.hidl b hb
    have h3 := w0.hlk b hb
    rw [h1] at h
    simp only [Option.some.injEq] at h
    rw [h] at h2 h3
    exact .inl ⟨hb, by rw [h1, h], h2, h3⟩
  · obtain ⟨k, r, e, hk, ho⟩ := ownRet_inv h
    have e : q = k := by omega
    subst e
    exact .inr ⟨r, hk, ho⟩
theorem Weak.of {kp : Nat} (σ : List (Option Nat)) {st st2 : St} (h : weakK kp σ st st2) : Weak kp st st2 := by
  intro w0 a w hkp hf
  obtain ⟨own, hd, hl, hs⟩ := hf
  have h := chk_and h
  simp only [Bool.and_eq_true] at h
  obtain ⟨⟨hdis, hkeep⟩, h⟩ := h
  obtain ⟨hroots, hlen, hslots⟩ := wkL_sound _ _ _ h
  obtain ⟨hrl, hrt⟩ := wkRoots_sound _ _ _ hroots
  have hlive : ∀ (k r : Nat), σ[k]? = some (some r) → ∃ R, rtOf st.rt r = some (some R) := fun k r hk => by
    obtain ⟨x, hx⟩ := at_of_len hrl hk
    have := hrt k _ _ hk hx
    cases x with
    | none => exact this.elim
    | some R2 => obtain ⟨R, hR, _⟩ := this; exact ⟨R, hR⟩
  have hdeadk : ∀ q, rtOf st.rt q = some none → q < w0.keep → σ[q]? = some none ∧ st2.rt[q]? = some none := fun q h1 h2 => by
    rw [hkp] at h2
    rcases keepOk_spec kp hkeep q h2 with h3 | h3
    · obtain ⟨R, hR⟩ := hlive q q h3; rw [hR] at h1; cases h1
    · exact h3
  have hown0 : ∀ (k r : Nat), σ[k]? = some (some r) → ∀ b p, own3 w0 own σ b = some (k, p) ↔ own b = some (r, p) := fun k r hk b p => by
    constructor
    · intro h
      rcases own3_inv hs h with ⟨_, _, h3, h4⟩ | ⟨r', h3, h4⟩
      · have := (hdeadk k h3 h4).1; rw [hk] at this; cases this
      · rw [hk] at h3
        simp only [Option.some.injEq] at h3
        rw [h3]; exact h4
    · intro h
      unfold own3
      split
      · rename_i hb
        obtain ⟨h1, h2⟩ := hs.hidl b hb
        obtain ⟨R, hR⟩ := hlive k r hk
        rw [h] at h1
        simp only [Option.some.injEq] at h1
        rw [← h1, hR] at h2; cases h2
      · have := ownRet_iff (own := own) (n := 0) hdis hk b p
        exact (by simpa [own2] using this : own2 own σ b = some (k, p) ↔ own b = some (r, p)).2 h
  have sig : SigOk σ own (own3 w0 own σ) (rtOf st.rt) (rtOf st2.rt) := by
    refine ⟨fun b hb => ?_, fun k r hk => ?_, fun k r R R2 p hk h1 h2 hp => ?_, fun k hk => ?_⟩
    · unfold own3
      split
      · exact hb
      · unfold own2 ownRet; rw [hb]
    rotate_left
    · rcases hp with e | ⟨hb, hg⟩
      · exact .inl e
      · obtain ⟨x, hx⟩ := at_of_len hrl hk
        have hto := hrt k _ _ hk hx
        unfold rtOf at h1 h2
        rw [hx] at h2
        simp only [Option.some.injEq] at h2
        subst h2
        obtain ⟨R0, hR0, hbox, hcs⟩ := hto
        rw [hR0] at h1
        simp only [Option.some.injEq] at h1
        subst h1
        split at hcs
        · rename_i h9; rw [hbox, h9] at hb; cases hb
        · exact .inr ⟨by rw [← hbox]; exact hb, by rw [← hcs]; exact hg⟩
    rotate_right
    · have hlt := lt_of_at hk
      obtain ⟨x, hx⟩ := at_of_len hrl hk
      have := hrt k _ _ hk hx
      cases x with
      | none => exact this.elim
      | some R2 =>
        obtain ⟨R, hR, _⟩ := this
        exact ⟨by unfold rtOf; rw [hx]; simp, ⟨R, hR⟩, hown0 k r hk⟩
    · obtain ⟨x, hx⟩ := at_of_len hrl hk
      refine ⟨by unfold rtOf; rw [hx]; simp, fun R hR b p hb => ?_⟩
      rcases own3_inv hs hb with ⟨_, _, h3, h4⟩ | ⟨r', h3, h4⟩
      · have := (hdeadk k h3 h4).2
        have hR' : st2.rt[k]? = some (some R) := hR
        rw [this] at hR'; cases hR'
      · rw [hk] at h3; cases h3
  refine ⟨own3 w0 own σ, hd, by rw [hlen]; exact hl, ⟨hs.below, fun i => ?_, ?_, ?_, fun b hb => ?_, ?_, fun d v hp => ?_⟩⟩
  · show Mt w _ _ _ (st2.env.getD i .undef) (a.tmps.getD i Go.undef)
    rw [List.getD_eq_getElem?_getD]
    cases hi : st2.env[i]? with
    | none => exact .undef _
    | some d2 =>
      obtain ⟨d, hd'⟩ := at_of_len hlen hi
      have := hs.env i
      rw [List.getD_eq_getElem?_getD, hd'] at this
      exact hslots i d2 d hi hd' w own _ _ _ sig _ this
  · intro k R2 hk
    have hx : st2.rt[k]? = some (some R2) := hk
    obtain ⟨s, hσ⟩ := at_of_len hrl.symm hx
    have hto := hrt k s _ hσ hx
    cases s with
    | none =>
      refine .inr ⟨hto.1, hto.2, fun b => (sig.fresh k hσ).2 R2 hk b []⟩
    | some r =>
      obtain ⟨R, hR, hbox, hcs⟩ := hto
      obtain ⟨_, _, hown⟩ := sig.live k r hσ
      rcases hs.roots r R hR with ⟨b, arr, e, h1, h2, h3, h4⟩ | ⟨h1, h2, h3⟩
      · refine .inl ⟨b, arr, e, (hown b []).2 h1, h2, ?_, fun i d2 v hd2 hv => ?_⟩
        · split at hcs
          · rw [hcs.1]; exact h3
          · rw [← hcs]; exact h3
        · unfold CellOk
          split at hcs
          · rename_i hb
            rw [if_pos hb]
            obtain ⟨d, hd'⟩ := at_of_len hcs.1 hd2
            have := h4 i d v hd' hv
            unfold CellOk at this
            rw [hbox, if_pos hb] at this
            exact hcs.2 i d2 d hd2 hd' w own _ _ _ sig v this
          · rename_i hb
            rw [if_neg hb]
            rw [← hcs] at hd2
            have := h4 i d2 v hd2 hv
            unfold CellOk at this
            rw [hbox, if_neg hb] at this
            exact this.relab (k, [i]) (fun b hb => ⟨sig.okb hb, rfl⟩) (fun b q hq => ⟨(hown b _).2 hq, rfl⟩) (fun b q hq => (hown b _).1 hq)
      · split at hcs
        · rename_i hb; rw [hbox, hb] at h1; cases h1
        · exact .inr ⟨by rw [← hbox]; exact h1, by rw [← hcs]; exact h2, fun b hb => h3 b ((hown b []).1 hb)⟩
  · intro b q p hb
    rcases own3_inv hs hb with ⟨hx, h2, h3, h4⟩ | ⟨r, hk, ho⟩
    · obtain ⟨_, k2, _⟩ := hs.lab b q p h2
      have := (hdeadk q h3 h4).2
      exact ⟨fun _ => this, k2, by unfold rtOf; rw [this]; simp⟩
    · obtain ⟨h1, h2, _⟩ := hs.lab b r p ho
      obtain ⟨R, hR⟩ := hlive q r hk
      refine ⟨fun hp => ?_, h2, (sig.live q r hk).1⟩
      have := h1 hp
      rw [hR] at this; cases this
  · obtain ⟨h1, h2⟩ := hs.hidl b hb
    refine ⟨by unfold own3; rw [if_pos hb]; exact h1, (hdeadk _ h2 (w0.hlk b hb)).2⟩
  · intro b b' l h h'
    obtain ⟨q, p⟩ := l
    rcases own3_inv hs h with ⟨hx, h2, h3, h4⟩ | ⟨r, hk, ho⟩ <;> rcases own3_inv hs h' with ⟨hx', h2', h3', h4'⟩ | ⟨r', hk', ho'⟩
    · exact hs.inj b b' _ h2 h2'
    · have := (hdeadk q h3 h4).1; rw [hk'] at this; cases this
    · have := (hdeadk q h3' h4').1; rw [hk] at this; cases this
    · rw [hk] at hk'
      simp only [Option.some.injEq] at hk'
      subst hk'
      exact hs.inj b b' _ ho ho'
  · exact BelowD.to sig (fun r hr => keepOk_spec kp hkeep r hr) (by have := w0.hk d v hp; rw [hkp] at this; exact this) _ (hs.susp d v hp)

end
end Go.Vm

/- Small aids: contracts of weaker arguments, ranges, rows of numbers. -/
set_option linter.unusedVariables false
set_option linter.unusedSimpArgs false
set_option linter.unusedSectionVars false
namespace Go.Vm
open Go Go.RowKit

theorem inR64 {n : Int} (h1 : -9223372036854775808 ≤ n) (h2 : n ≤ 9223372036854775807) : inR .i64 n := IntWalk.i64_in n ⟨h1, h2⟩

abbrev dint (n : Int) : D := .lit (.int .i64 n)
def ints (l : List Int) : List D := l.map dint
@[simp] theorem ints_length (l : List Int) : (ints l).length = l.length := by simp [ints]
theorem ints_append (l m : List Int) : ints l ++ ints m = ints (l ++ m) := by simp [ints]
theorem ints_at {l : List Int} {i : Nat} {x : Int} (h : l[i]? = some x) : (ints l)[i]? = some (dint x) := by simp [ints, h]
theorem ints_set (l : List Int) (i : Nat) (x : Int) : (ints l).set i (dint x) = ints (l.set i x) := by simp [ints, List.map_set]
theorem ints_replicate (n : Nat) (x : Int) : List.replicate n (dint x) = ints (List.replicate n x) := by simp [ints]
theorem ints_take (l : List Int) (n : Nat) : (ints l).take n = ints (l.take n) := by simp [ints, List.map_take]
theorem ints_drop (l : List Int) (n : Nat) : (ints l).drop n = ints (l.drop n) := by simp [ints, List.map_drop]
theorem ints_plain (l : List Int) : ∀ x ∈ ints l, PlainD x := by
  intro x hx
  simp only [ints, List.mem_map] at hx
  obtain ⟨a, _, rfl⟩ := hx
  exact .lit _

theorem StoreRow.ints {l : List Int} {i : Nat} (x : Int) (h : i < l.length) : StoreRow (ints l) [] i (dint x) (ints (l.set i x)) := by
  refine ⟨_, rfl, by simpa using h, fun y hy => ?_, ?_⟩
  · simp only [Go.Vm.ints, List.getElem?_map, Option.map_eq_some_iff] at hy
    obtain ⟨a, _, rfl⟩ := hy
    rfl
  · show (Go.Vm.ints l).set i (dint x) = _
    exact ints_set l i x

abbrev dbool (b : Bool) : D := .lit (.bool b)
theorem dbool_congr {a b : Bool} (h : a = b) : dbool a = dbool b := by rw [h]
theorem cnt1 (cs : List D) : cnt 1 cs = cs.length := rfl
theorem place1 (off j : Nat) : place 1 off j = off + j := rfl
theorem ints_get {l : List Int} {k : Nat} (h : k < l.length) : (ints l)[k]? = some (dint (l.getD k 0)) := by
  rw [ints_at (List.getElem?_eq_getElem h)]; simp [h]
theorem load_ints {l : List Int} {k : Nat} (h : k < l.length) : LoadRow (ints l) [] k (dint (l.getD k 0)) := ⟨_, rfl, ints_get h⟩
theorem room {n b : Nat} (h1 : n * b ≤ 140737488355328) (h2 : n ≤ 140737488355328) : roomOk n b := ⟨h1, h2⟩
theorem replN_ints (n : Nat) (x : Int) : replN n [dint x] = ints (List.replicate n x) := ints_replicate n x

theorem eqV_int {k : IntKind} {a b : Int} (h : a = b) : eqV (.int k a) (.int k b) := by
  subst h
  show chk (ikEq k k) (a = a)
  cases k <;> exact rfl

theorem sub_ints {l : List Int} {n : Nat} (h : n = l.length) : sub (ints l) 1 0 n = ints l := by
  subst h
  simp [sub, ints, List.take_of_length_le]
theorem sub_ints' (l : List Int) (off n : Nat) : sub (ints l) 1 off n = ints ((l.drop off).take n) := by
  simp [sub, ints, List.map_take, List.map_drop]

end Go.Vm

/- From the readings of a row's arguments to closed data; from a contract to 'Calls'. -/
set_option linter.unusedVariables false
set_option linter.unusedSimpArgs false
set_option linter.unusedSectionVars false
namespace Go.Vm
open Go Go.RowKit Go.ChangeShapes Go.WideShapes Go.ChangeAt

end Go.Vm

/- Loops whose states are told by what they change; obligations that a fixed script settles. -/
set_option linter.unusedVariables false
set_option linter.unusedSimpArgs false
set_option linter.unusedSectionVars false
namespace Go.Vm
open Go Go.RowKit

def dstsC : Code → List Nat
  | .region _ ops _ => ops.toList.filterMap (·.dst)
  | .seq x y => dstsC x ++ dstsC y
  | .cond _ x y => dstsC x ++ dstsC y
  | .block _ c => dstsC c
  | .loop c => dstsC c
  | _ => []
def forceNs : List Nat → (List Nat → Prop) → Prop
  | [], k => k []
  | n :: l, k => forceNs l fun l => k (n :: l)
theorem forceNs_eq : ∀ (l : List Nat) (k : List Nat → Prop), forceNs l k = k l
  | [], _ => rfl
  | n :: l, k => by simp only [forceNs, forceNs_eq l]
def putL : List (Nat × D) → List D → List D
  | [], env => env
  | (s, d) :: ss, env => putL ss (env.set s d)
def mkSt (st : St) (ds : List Nat) (cs : List (Nat × D)) (rs : List (Nat × Option Root)) : St := ⟨putL cs (clr ds 0 st.env), wrP st.rt rs⟩

def sig1 (d2 d : D) : List (Nat × Nat) :=
  match d2 with
  | .ref k .. => match d with
    | .ref r .. => [(k, r)]
    | _ => []
  | .ptr k .. => match d with
    | .ptr r .. => [(k, r)]
    | _ => []
  | _ => []
def sigLg (f : D → D → List (Nat × Nat)) : List D → List D → List (Nat × Nat)
  | d2 :: ds2, d :: ds => f d2 d ++ sigLg f ds2 ds
  | _, _ => []
def sigT (f : D → D → List (Nat × Nat)) (d2 d : D) : List (Nat × Nat) :=
  match d2 with
  | .agg ds2 => match d with
    | .agg ds => sigLg f ds2 ds
    | _ => []
  | .tup ds2 => match d with
    | .tup ds => sigLg f ds2 ds
    | _ => []
  | .fn _ fs2 cs2 => match d with
    | .fn _ fs cs => sigLg f fs2 fs ++ sigLg f cs2 cs
    | _ => []
  | d2 => sig1 d2 d
def sigD (d2 d : D) : List (Nat × Nat) := sigT (sigT (sigT sig1)) d2 d
def sigL : List D → List D → List (Nat × Nat)
  | d2 :: ds2, d :: ds => sigD d2 d ++ sigL ds2 ds
  | _, _ => []
def sigB (rt2 rt : List (Option Root)) : List (Nat × Nat) → List (Nat × Nat)
  | [] => []
  | (k, r) :: ps => (match rt2[k]? with
    | some (some ⟨true, _, cs2⟩) => (match rt[r]? with
      | some (some ⟨true, _, cs⟩) => sigL cs2 cs
      | _ => [])
    | _ => []) ++ sigB rt2 rt ps
def lookN (k : Nat) : List (Nat × Nat) → Option Nat
  | [] => none
  | (a, b) :: ps => match Nat.beq a k with
    | true => some b
    | false => lookN k ps
def sigGo (kp : Nat) (rt2 : List (Option Root)) (ps : List (Nat × Nat)) : Nat → List (Option Root) → List (Option Nat)
  | _, [] => []
  | k, x :: xs => (match Nat.blt k kp with
    | true => (match x with
      | none => none
      | some _ => some k)
    | false => lookN k ps) :: sigGo kp rt2 ps (k + 1) xs
def sigOf (kp : Nat) (st st2 : St) : List (Option Nat) :=
  let ps := sigL st2.env st.env
  let qs := ps ++ sigB st2.rt st.rt ps
  sigGo kp st2.rt (qs ++ sigB st2.rt st.rt qs) 0 st2.rt

def forceSg : List (Option Nat) → (List (Option Nat) → Prop) → Prop
  | [], k => k []
  | none :: l, k => forceSg l fun l => k (none :: l)
  | some n :: l, k => forceSg l fun l => k (some n :: l)
theorem forceSg_eq : ∀ (l : List (Option Nat)) (k : List (Option Nat) → Prop), forceSg l k = k l
  | [], _ => rfl
  | none :: l, k => by simp only [forceSg, forceSg_eq l]
  | some n :: l, k => by simp only [forceSg, forceSg_eq l]
def refs1 : D → List Nat
  | .ref k .. => [k]
  | .ptr k .. => [k]
  | _ => []
def refsLg (f : D → List Nat) : List D → List Nat
  | [] => []
  | d :: ds => f d ++ refsLg f ds
def refsT (f : D → List Nat) (d : D) : List Nat :=
  match d with
  | .agg ds => refsLg f ds
  | .tup ds => refsLg f ds
  | .fn _ fs cs => refsLg f fs ++ refsLg f cs
  | d => refs1 d
def refsD (d : D) : List Nat := refsT (refsT (refsT refs1)) d
def refsB (rt : List (Option Root)) : List Nat → List Nat
  | [] => []
  | k :: ks => (match rt[k]? with
    | some (some ⟨true, _, cs⟩) => refsLg refsD cs
    | _ => []) ++ refsB rt ks
def liveOf (st : St) : List Nat :=
  let l := refsLg refsD st.env
  let l2 := l ++ refsB st.rt l
  l2 ++ refsB st.rt l2
def gcSt (kp : Nat) (st : St) : St := ⟨st.env, gcL kp (liveOf st) 0 st.rt⟩
def forceGc (kp : Nat) (st : St) (k : St → Prop) : Prop := forceS st fun st => forceNs (liveOf st) fun l => forceS ⟨st.env, gcL kp l 0 st.rt⟩ k
theorem forceGc_eq (kp : Nat) (st : St) (k : St → Prop) : forceGc kp st k = k (gcSt kp st) := by
  unfold forceGc gcSt
  rw [forceS_eq, forceNs_eq, forceS_eq]

def weakA (kp : Nat) (st st2 : St) : Prop := forceGc kp st2 fun st2 => forceSg (sigOf kp st st2) fun σ => weakK kp σ st st2
@[irreducible] def WeakS (kp : Nat) (st st2 : St) : Prop := Weak kp st st2
theorem Weak.auto {kp : Nat} {st st2 : St} (h : weakA kp st st2) : Weak kp st (gcSt kp st2) := by
  unfold weakA at h
  rw [forceGc_eq, forceSg_eq] at h
  exact Weak.of _ h
theorem WeakS.auto {kp : Nat} {st st2 : St} (h : weakA kp st st2) : WeakS kp st (gcSt kp st2) := by
  unfold WeakS
  exact Weak.auto h

section
variable {P : Program} {T : Tab} {kp : Nat}
theorem loop_at (hT : TabOk P T) (hm : P.follows .mixedOrders = true) {body : Code} {Q : Exit → St → Prop} {st : St} {α : Type} (cs : α → List (Nat × D)) (rs : α → List (Nat × Option Root)) (J : α → Prop) (μ : α → Nat) (x0 : α) (h0 : J x0)
    (hw : forceNs (dstsC body) fun ds => WeakS kp st (gcSt kp (mkSt st ds (cs x0) (rs x0))))
    (round : ∀ x, J x → forceNs (dstsC body) fun ds => forceGc kp (mkSt st ds (cs x) (rs x)) (vc P T kp body (fun e st' => match e with
      | .normal => ∃ y, J y ∧ μ y < μ x ∧ Weak kp st' (gcSt kp (mkSt st ds (cs y) (rs y)))
      | e => Q e st'))) : LoopK P kp body Q st :=
  loop_rule hT hm (fun x => gcSt kp (mkSt st (dstsC body) (cs x) (rs x))) J μ x0 h0 (by rw [forceNs_eq] at hw; exact hw.to) (fun x hx => by
    have h := round x hx
    rw [forceNs_eq, forceGc_eq] at h
    exact h)

theorem inl_of (hT : TabOk P T) (hm : P.follows .mixedOrders = true) {g : Nat} {fs cs args : List D} {st : St} {K : D → List (Option Root) → Prop} (fn : Func) {c : Code} (h1 : P.funcs[g]? = some fn) (h2 : fn.body = some c) (h3 : (fn.name == "runtime.NumGoroutine") = false)
    (h : vc P T st.rt.length c (fun e st' => (e = .ret ∨ e = .normal) ∧ resuK T st'.env (rtOf st'.rt) fn.results.toList fun ds => normB (oneD ds) fun d => K d st'.rt)
        ⟨(fs ++ args ++ cs) ++ List.replicate (fn.ntmps - (fs ++ args ++ cs).length) .undef, st.rt⟩) : inlK P T (.fn (.func g) fs cs) args st K :=
  ⟨fn, c, h1, h2, h3, vc_sound hT hm _ _ _ h⟩
end
end Go.Vm

/- Obligations that a fixed script settles. -/
set_option linter.unusedVariables false
set_option linter.unusedSimpArgs false
set_option linter.unusedSectionVars false
namespace Go.Vm
open Go Go.RowKit Go.Fg

def rows (o : Bool) (t : List (List Int)) : List D := t.map fun l => .list o 1 (ints l)
@[simp] theorem rows_length (o : Bool) (t : List (List Int)) : (rows o t).length = t.length := by simp [rows]
theorem rows_at {o : Bool} {t : List (List Int)} {i : Nat} {l : List Int} (h : t[i]? = some l) : (rows o t)[i]? = some (.list o 1 (ints l)) := by simp [rows, h]
theorem rows_get {o : Bool} {t : List (List Int)} {i : Nat} (h : i < t.length) : (rows o t)[i]? = some (.list o 1 (ints (t.getD i []))) := by
  rw [rows_at (List.getElem?_eq_getElem h)]; simp [h]
theorem rows_append (o : Bool) (t : List (List Int)) (l : List Int) : rows o t ++ [.list o 1 (ints l)] = rows o (t ++ [l]) := by simp [rows]
theorem rows_set (o : Bool) (t : List (List Int)) (i : Nat) (l : List Int) : (rows o t).set i (.list o 1 (ints l)) = rows o (t.set i l) := by simp [rows, List.map_set]
theorem rows_plain (t : List (List Int)) : ∀ x ∈ rows true t, PlainD x := by
  intro x hx
  simp only [rows, List.mem_map] at hx
  obtain ⟨l, _, rfl⟩ := hx
  exact .list 1 _ (ints_plain l)
theorem getB_rows {t : List (List Int)} {i : Nat} (h : i < t.length) : getB (rows true t) [i] = some (ints (t.getD i [])) := by
  show (match (rows true t)[i]? with | some (.list true _ cs) => getB cs [] | _ => none) = _
  rw [rows_get h]; rfl
theorem load_rows {t : List (List Int)} {i j : Nat} (h : i < t.length) (h2 : j < (t.getD i []).length) : LoadRow (rows true t) [i] j (dint ((t.getD i []).getD j 0)) := ⟨_, getB_rows h, ints_get h2⟩
theorem load_row {t : List (List Int)} {i : Nat} (h : i < t.length) : LoadRow (rows true t) [] i (.list true 1 (ints (t.getD i []))) := ⟨_, rfl, rows_get h⟩
instance (a b : Int) : ArP (a ≤ b) := ⟨trivial⟩
instance (a b : Int) : ArP (a < b) := ⟨trivial⟩
instance (a b : Int) : ArP (a = b) := ⟨trivial⟩
instance (a b : Int) : ArP (a ≠ b) := ⟨trivial⟩
instance (a b : Int) : ArP (a ∣ b) := ⟨trivial⟩
instance (a b : Nat) : ArP (a ≤ b) := ⟨trivial⟩
instance (a b : Nat) : ArP (a < b) := ⟨trivial⟩
instance (a b : Nat) : ArP (a = b) := ⟨trivial⟩
instance (a b : Nat) : ArP (a ≠ b) := ⟨trivial⟩
instance (a b : Nat) : ArP (a ∣ b) := ⟨trivial⟩
instance (p q : Prop) [ArP p] : ArP (p ∧ q) := ⟨trivial⟩
instance (p q : Prop) [ArP p] : ArP (p ∨ q) := ⟨trivial⟩
instance (p : Prop) [ArP p] : ArP (¬ p) := ⟨trivial⟩
theorem tm_add {m : Int} (h : Md m) (a b : Zm m) : (a.val + b.val).tmod m = (a + b).val := by
  have := Zm.val_range h.pos a; have := Zm.val_range h.pos b
  exact Zm.tmod_val (by omega) (by rw [Zm.mk_add, Zm.mk_val, Zm.mk_val])
theorem tm_mul {m : Int} (h : Md m) (a b : Zm m) : (a.val * b.val).tmod m = (a * b).val :=
  Zm.tmod_val (h.mul a b).1 (by rw [Zm.mk_mul, Zm.mk_val, Zm.mk_val])
theorem tm_mulA {m : Int} (h : Md m) (a b c : Zm m) : (c.val + a.val * b.val).tmod m = (c + a * b).val := by
  have := h.mul a b; have := Zm.val_range h.pos c
  exact Zm.tmod_val (by omega) (by rw [Zm.mk_add, Zm.mk_mul, Zm.mk_val, Zm.mk_val, Zm.mk_val])
theorem subM_bd {m : Int} (h : Md m) (x u : Zm m) : 0 ≤ (m - x.val) * u.val ∧ (m - x.val) * u.val ≤ 100000000 := by
  have h1 := Zm.val_range h.pos x
  have h2 := Zm.val_range h.pos u
  refine ⟨Int.mul_nonneg (by omega) h2.1, ?_⟩
  have := h.2
  calc (m - x.val) * u.val ≤ 10000 * u.val := Int.mul_le_mul_of_nonneg_right (by omega) h2.1
    _ ≤ 10000 * 10000 := Int.mul_le_mul_of_nonneg_left (by omega) (by omega)
    _ = 100000000 := by rfl
theorem tm_negmul {m : Int} (h : Md m) (x u : Zm m) : ((m - x.val) * u.val).tmod m = (-(x * u)).val :=
  Zm.tmod_val (subM_bd h x u).1 (by rw [Zm.mk_mul, Zm.mk_sub, Zm.mk_val, Zm.mk_val, Zm.mk_self, Go.Fg.sub_def, CR.zero_add, Go.Fg.neg_mul])
class KInR (p : Prop) : Prop where
  ok : True
instance (k : IntKind) (n : Int) : KInR (inR k n) := ⟨trivial⟩
class KRoom (p : Prop) : Prop where
  ok : True
instance (n b : Nat) : KRoom (roomOk n b) := ⟨trivial⟩
instance (p q : Prop) (n b : Nat) : KRoom (p ∧ q ∧ roomOk n b) := ⟨trivial⟩
class KLoad (p : Prop) : Prop where
  ok : True
instance (cs : List D) (p : List Nat) (i : Nat) (d : D) : KLoad (LoadRow cs p i d) := ⟨trivial⟩
class KStore (p : Prop) : Prop where
  ok : True
instance (cs : List D) (p : List Nat) (i : Nat) (d : D) (cs' : List D) : KStore (StoreRow cs p i d cs') := ⟨trivial⟩
class KEqO (p : Prop) : Prop where
  ok : True
instance {α : Type} (a b : Option α) : KEqO (a = b) := ⟨trivial⟩
class KEqL (p : Prop) : Prop where
  ok : True
instance {α : Type} (a b : List α) : KEqL (a = b) := ⟨trivial⟩
class KEqN (p : Prop) : Prop where
  ok : True
instance (a b : Nat) : KEqN (a = b) := ⟨trivial⟩
theorem vLoad {l : List Int} {k i : Nat} (e : k = i := by exact vIx) (h : i < l.length := by exact vAr) : LoadRow (ints l) [] k (dint (l.getD i 0)) := by subst e; exact load_ints h
theorem vGet {l : List Int} {k i : Nat} (e : k = i := by exact vIx) (h : i < l.length := by exact vAr) : (ints l)[k]? = some (dint (l.getD i 0)) := by subst e; exact ints_get h
theorem vStore {l : List Int} {k i : Nat} (x : Int) (e : k = i := by exact vIx) (h : i < l.length := by exact vAr) : StoreRow (ints l) [] k (dint x) (ints (l.set i x)) := by subst e; exact StoreRow.ints x h
theorem vSub {l : List Int} {n : Nat} (h : n = l.length := by exact vAr) : sub (ints l) 1 0 n = ints l := sub_ints h
theorem vRload {t : List (List Int)} {q i k j : Nat} (e : q = i := by exact vIx) (e2 : k = j := by exact vIx) (h : i < t.length := by exact vAr) (h2 : j < (t.getD i []).length := by exact vAr) : LoadRow (rows true t) [q] k (dint ((t.getD i []).getD j 0)) := by subst e; subst e2; exact load_rows h h2
theorem vRrow {t : List (List Int)} {k i : Nat} (e : k = i := by exact vIx) (h : i < t.length := by exact vAr) : LoadRow (rows true t) [] k (.list true 1 (ints (t.getD i []))) := by subst e; exact load_row h
theorem vRget {o : Bool} {t : List (List Int)} {k i : Nat} (e : k = i := by exact vIx) (h : i < t.length := by exact vAr) : (rows o t)[k]? = some (.list o 1 (ints (t.getD i []))) := by subst e; exact rows_get h
theorem vSubL {m : Int} {n k k' : Nat} {a : PS (Zm m)} (e : k = k' := by exact vIx) (h : k' ≤ n := by exact vAr) : sub (ints (L n a)) 1 0 k = ints (L k' a) := by
  subst e; rw [sub_ints', List.drop_zero, L_take a h]
theorem vApp1 (l : List Int) (x : Int) : ints l ++ [dint x] = ints (l ++ [x]) := by simp [ints]
theorem vAppR (t : List (List Int)) (l : List Int) : rows true t ++ [.list true 1 (ints l)] = rows true (t ++ [l]) := rows_append true t l
theorem vRepl0 (n : Nat) : replN n [dint 0] = ints (List.replicate n 0) := replN_ints n 0
theorem vRepl {n k : Nat} (h : n = k := by exact vAr) : replN n [dint 0] = ints (List.replicate k 0) := by subst h; exact replN_ints n 0
theorem vReplL {m : Int} {n k : Nat} (h : n = k := by exact vAr) : replN n [dint 0] = ints (L k (0 : PS (Zm m))) := by subst h; rw [L_zero]; exact replN_ints n 0
theorem vLoadL {m : Int} {n k i : Nat} {a : PS (Zm m)} (e : k = i := by exact vIx) (h : i < n := by exact vAr) : LoadRow (ints (L n a)) [] k (dint (a.c i).val) := by
  subst e; rw [← L_getD a h]; exact load_ints (by simpa using h)
theorem vGetL {m : Int} {n k i : Nat} {a : PS (Zm m)} (e : k = i := by exact vIx) (h : i < n := by exact vAr) : (ints (L n a))[k]? = some (dint (a.c i).val) := by
  subst e; rw [← L_getD a h]; exact ints_get (by simpa using h)
theorem vLoadT {m : Int} {n q i k j : Nat} {f : PS (PS (Zm m))} (e : q = i := by exact vIx) (e2 : k = j := by exact vIx) (h : i + j < n := by exact vAr) : LoadRow (rows true (Tb n f)) [q] k (dint ((f.c i).c j).val) := by
  subst e; subst e2
  have h1 := load_rows (t := Tb n f) (i := q) (j := k) (by simp; omega) (by rw [Tb_getD f (by omega)]; simp; omega)
  rw [Tb_getD f (by omega), L_getD _ (by omega)] at h1
  exact h1
theorem vRowT {m : Int} {n k i : Nat} {f : PS (PS (Zm m))} (e : k = i := by exact vIx) (h : i < n := by exact vAr) : LoadRow (rows true (Tb n f)) [] k (.list true 1 (ints (L (n - i) (f.c i)))) := by
  subst e; rw [← Tb_getD f h]; exact load_row (by simpa using h)
theorem vGetT {m : Int} {o : Bool} {n k i : Nat} {f : PS (PS (Zm m))} (e : k = i := by exact vIx) (h : i < n := by exact vAr) : (rows o (Tb n f))[k]? = some (.list o 1 (ints (L (n - i) (f.c i)))) := by
  subst e; rw [← Tb_getD f h]; exact rows_get (by simpa using h)
theorem vObxL {p : Prop} [KLoad p] (h : p := by first | exact vLoadL | exact vLoadT | exact vRowT | exact vLoad | exact vRload | exact vRrow) : p := h
theorem vObxS {p : Prop} [KStore p] (h : p := by exact vStore _) : p := h
theorem vObxO {p : Prop} [KEqO p] (h : p := by first | exact vGetL | exact vGetT | exact vGet | exact vRget | exact rfl) : p := h
theorem vObxC {p : Prop} [KEqL p] (h : p := by first | exact vRepl0 _ | exact vApp1 _ _ | exact vAppR _ _ | exact vSub | exact vSubL | exact sub_ints' _ _ _ | exact rfl) : p := h
theorem vObxN {p : Prop} [KEqN p] (h : p := by first | exact vIx | exact rfl) : p := h
theorem vObx {p : Prop} (h : p := by first | exact vObxL | exact vObxO | exact vObxC | exact vObxS | exact vObxN) : p := h
end Go.Vm
