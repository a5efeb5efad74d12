/- Loops whose states are told by what they change; obligations that a fixed script settles. -/
import Derived.Test.YtnonhialafcjmaaVm26
set_option linter.unusedVariables false
set_option linter.unusedSimpArgs false
set_option linter.unusedSectionVars false
namespace Go.Vm
open Go Go.RowKit

/-- The slots that code writes. -/
def dstsC : Code → List Nat
  | .region _ ops _ => ops.toList.filterMap (·.dst)
  | .seq x y => dstsC x ++ dstsC y
  | .cond _ x y => dstsC x ++ dstsC y
  | .block _ c => dstsC c
  | .loop c => dstsC c
  | _ => []
def hasN (x : Nat) : List Nat → Bool
  | [] => false
  | y :: l => match Nat.beq x y with
    | true => true
    | false => hasN x l
def clr (ds : List Nat) : Nat → List D → List D
  | _, [] => []
  | i, d :: r => (match hasN i ds with
    | true => .undef
    | false => d) :: clr ds (i + 1) r
def forceNs : List Nat → (List Nat → Prop) → Prop
  | [], k => k []
  | n :: l, k => forceNs l fun l => k (n :: l)
theorem forceNs_eq : ∀ (l : List Nat) (k : List Nat → Prop), forceNs l k = k l
  | [], _ => rfl
  | n :: l, k => by simp only [forceNs, forceNs_eq l]
def putL : List (Nat × D) → List D → List D
  | [], env => env
  | (s, d) :: ss, env => putL ss (env.set s d)
/-- Roots told anew; one behind the last is added. -/
def wrP : List (Option Root) → List (Nat × Option Root) → List (Option Root)
  | l, [] => l
  | l, (r, x) :: ws => wrP (match Nat.blt r l.length with
    | true => l.set r x
    | false => l ++ [x]) ws
/-- The state of a loop's head: what the body writes is forgotten, but for what is told. -/
def mkSt (st : St) (ds : List Nat) (cs : List (Nat × D)) (rs : List (Nat × Option Root)) : St := ⟨putL cs (clr ds 0 st.env), wrP st.rt rs⟩

/-- Which root stands for which, as the slots tell. -/
def sig1 (d2 d : D) : List (Nat × Nat) :=
  match d2 with
  | .ref k .. => match d with
    | .ref r .. => [(k, r)]
    | _ => []
  | .ptr k .. => match d with
    | .ptr r .. => [(k, r)]
    | _ => []
  | _ => []
def sigLg (f : D → D → List (Nat × Nat)) : List D → List D → List (Nat × Nat)
  | d2 :: ds2, d :: ds => f d2 d ++ sigLg f ds2 ds
  | _, _ => []
def sigT (f : D → D → List (Nat × Nat)) (d2 d : D) : List (Nat × Nat) :=
  match d2 with
  | .agg ds2 => match d with
    | .agg ds => sigLg f ds2 ds
    | _ => []
  | .tup ds2 => match d with
    | .tup ds => sigLg f ds2 ds
    | _ => []
  | .fn _ fs2 cs2 => match d with
    | .fn _ fs cs => sigLg f fs2 fs ++ sigLg f cs2 cs
    | _ => []
  | d2 => sig1 d2 d
def sigD (d2 d : D) : List (Nat × Nat) := sigT (sigT (sigT sig1)) d2 d
def sigL : List D → List D → List (Nat × Nat)
  | d2 :: ds2, d :: ds => sigD d2 d ++ sigL ds2 ds
  | _, _ => []
def sigB (rt2 rt : List (Option Root)) : List (Nat × Nat) → List (Nat × Nat)
  | [] => []
  | (k, r) :: ps => (match rt2[k]? with
    | some (some ⟨true, _, cs2⟩) => (match rt[r]? with
      | some (some ⟨true, _, cs⟩) => sigL cs2 cs
      | _ => [])
    | _ => []) ++ sigB rt2 rt ps
def lookN (k : Nat) : List (Nat × Nat) → Option Nat
  | [] => none
  | (a, b) :: ps => match Nat.beq a k with
    | true => some b
    | false => lookN k ps
def sigGo (kp : Nat) (rt2 : List (Option Root)) (ps : List (Nat × Nat)) : Nat → List (Option Root) → List (Option Nat)
  | _, [] => []
  | k, x :: xs => (match Nat.blt k kp with
    | true => (match x with
      | none => none
      | some _ => some k)
    | false => lookN k ps) :: sigGo kp rt2 ps (k + 1) xs
def sigOf (kp : Nat) (st st2 : St) : List (Option Nat) :=
  let ps := sigL st2.env st.env
  let qs := ps ++ sigB st2.rt st.rt ps
  sigGo kp st2.rt (qs ++ sigB st2.rt st.rt qs) 0 st2.rt

def forceSg : List (Option Nat) → (List (Option Nat) → Prop) → Prop
  | [], k => k []
  | none :: l, k => forceSg l fun l => k (none :: l)
  | some n :: l, k => forceSg l fun l => k (some n :: l)
theorem forceSg_eq : ∀ (l : List (Option Nat)) (k : List (Option Nat) → Prop), forceSg l k = k l
  | [], _ => rfl
  | none :: l, k => by simp only [forceSg, forceSg_eq l]
  | some n :: l, k => by simp only [forceSg, forceSg_eq l]
/-- The roots that a state still names. -/
def refs1 : D → List Nat
  | .ref k .. => [k]
  | .ptr k .. => [k]
  | _ => []
def refsLg (f : D → List Nat) : List D → List Nat
  | [] => []
  | d :: ds => f d ++ refsLg f ds
def refsT (f : D → List Nat) (d : D) : List Nat :=
  match d with
  | .agg ds => refsLg f ds
  | .tup ds => refsLg f ds
  | .fn _ fs cs => refsLg f fs ++ refsLg f cs
  | d => refs1 d
def refsD (d : D) : List Nat := refsT (refsT (refsT refs1)) d
def refsB (rt : List (Option Root)) : List Nat → List Nat
  | [] => []
  | k :: ks => (match rt[k]? with
    | some (some ⟨true, _, cs⟩) => refsLg refsD cs
    | _ => []) ++ refsB rt ks
def liveOf (st : St) : List Nat :=
  let l := refsLg refsD st.env
  let l2 := l ++ refsB st.rt l
  l2 ++ refsB st.rt l2
def gcL (kp : Nat) (l : List Nat) : Nat → List (Option Root) → List (Option Root)
  | _, [] => []
  | k, x :: xs => (match Nat.blt k kp || hasN k l with
    | true => x
    | false => none) :: gcL kp l (k + 1) xs
/-- What nobody names is forgotten. -/
def gcSt (kp : Nat) (st : St) : St := ⟨st.env, gcL kp (liveOf st) 0 st.rt⟩
def forceGc (kp : Nat) (st : St) (k : St → Prop) : Prop := forceS st fun st => forceNs (liveOf st) fun l => forceS ⟨st.env, gcL kp l 0 st.rt⟩ k
theorem forceGc_eq (kp : Nat) (st : St) (k : St → Prop) : forceGc kp st k = k (gcSt kp st) := by
  unfold forceGc gcSt
  rw [forceS_eq, forceNs_eq, forceS_eq]

def weakA (kp : Nat) (st st2 : St) : Prop := forceGc kp st2 fun st2 => forceSg (sigOf kp st st2) fun σ => weakK kp σ st st2
/-- Weak, kept shut where terms are reckoned. -/
@[irreducible] def WeakS (kp : Nat) (st st2 : St) : Prop := Weak kp st st2
theorem WeakS.to {kp : Nat} {st st2 : St} (h : WeakS kp st st2) : Weak kp st st2 := by unfold WeakS at h; exact h
theorem Weak.auto {kp : Nat} {st st2 : St} (h : weakA kp st st2) : Weak kp st (gcSt kp st2) := by
  unfold weakA at h
  rw [forceGc_eq, forceSg_eq] at h
  exact Weak.of _ h
theorem WeakS.auto {kp : Nat} {st st2 : St} (h : weakA kp st st2) : WeakS kp st (gcSt kp st2) := by
  unfold WeakS
  exact Weak.auto h

section
variable {P : Program} {T : Tab} {kp : Nat}
/-- A loop: its head's states by what changes. -/
theorem loop_at (hT : TabOk P T) (hm : P.follows .mixedOrders = true) {body : Code} {Q : Exit → St → Prop} {st : St} {α : Type} (cs : α → List (Nat × D)) (rs : α → List (Nat × Option Root)) (J : α → Prop) (μ : α → Nat) (x0 : α) (h0 : J x0)
    (hw : forceNs (dstsC body) fun ds => WeakS kp st (gcSt kp (mkSt st ds (cs x0) (rs x0))))
    (round : ∀ x, J x → forceNs (dstsC body) fun ds => forceGc kp (mkSt st ds (cs x) (rs x)) (vc P T kp body (fun e st' => match e with
      | .normal => ∃ y, J y ∧ μ y < μ x ∧ Weak kp st' (gcSt kp (mkSt st ds (cs y) (rs y)))
      | e => Q e st'))) : LoopK P kp body Q st :=
  loop_rule hT hm (fun x => gcSt kp (mkSt st (dstsC body) (cs x) (rs x))) J μ x0 h0 (by rw [forceNs_eq] at hw; exact hw.to) (fun x hx => by
    have h := round x hx
    rw [forceNs_eq, forceGc_eq] at h
    exact h)

/-- A call that is walked into. -/
theorem inl_of (hT : TabOk P T) (hm : P.follows .mixedOrders = true) {g : Nat} {fs cs args : List D} {st : St} {K : D → List (Option Root) → Prop} (fn : Func) {c : Code} (h1 : P.funcs[g]? = some fn) (h2 : fn.body = some c) (h3 : (fn.name == "runtime.NumGoroutine") = false)
    (h : vc P T st.rt.length c (fun e st' => (e = .ret ∨ e = .normal) ∧ resuK T st'.env (rtOf st'.rt) fn.results.toList fun ds => normB (oneD ds) fun d => K d st'.rt)
        ⟨(fs ++ args ++ cs) ++ List.replicate (fn.ntmps - (fs ++ args ++ cs).length) .undef, st.rt⟩) : inlK P T (.fn (.func g) fs cs) args st K :=
  ⟨fn, c, h1, h2, h3, vc_sound hT hm _ _ _ h⟩
end
end Go.Vm
