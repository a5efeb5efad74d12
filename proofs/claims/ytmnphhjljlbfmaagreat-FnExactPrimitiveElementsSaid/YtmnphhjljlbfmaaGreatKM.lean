/- Marks: what the laws write into results. -/
import Derived.Test.YtmnphhjljlbfmaaGreatK1
import Derived.Test.YtmnphhjljlbfmaaGreatVm32
namespace Go.Proofs
open Go Go.Vm Go.Fg
set_option maxRecDepth 100000
set_option maxHeartbeats 4000000
set_option linter.unusedSimpArgs false
set_option linter.unusedVariables false

def mkd (k : Int) (l : List Int) (i : Nat) : List Int := marks k i ++ l.drop i
theorem mkd_length (k : Int) (l : List Int) {i : Nat} (h : i ≤ l.length) : (mkd k l i).length = l.length := by simp [mkd]; omega
theorem mkd_set (k : Int) (l : List Int) {i : Nat} (h : i < l.length) : (mkd k l i).set i (k + i) = mkd k l (i + 1) := by
  unfold mkd
  rw [List.set_append_right _ _ (by simp), marks_length, Nat.sub_self, List.drop_eq_getElem_cons h, List.set_cons_zero]
  unfold marks
  rw [List.range_succ, List.map_append, List.append_assoc]; rfl
theorem inl_mark (env : List D) (rt : List (Option Root)) (r : Nat) (p : List Nat) (sz : Nat) (cs : List D) (l : List Int) (k : Int) (K : D → List (Option Root) → Prop) (hr : rt[r]? = some (some ⟨false, sz, cs⟩)) (hg : getB cs p = some (ints l))
    (hk : 0 ≤ k ∧ k + l.length ≤ 4611686018427387904) (hK : K (dint (k + l.length)) (rt.set r (some ⟨false, sz, updB cs p (fun _ => ints (marks k l.length))⟩))) :
    inlK Tryz.prog Tryz.tab (.fn (.func 36) [] []) [.ref r p 1 0 l.length, dint k] ⟨env, rt⟩ K := by
  have hlt : r < rt.length := by rcases Nat.lt_or_ge r rt.length with h' | h'; exact h'; rw [List.getElem?_eq_none h'] at hr; cases hr
  have hr' : rt[r] = some ⟨false, sz, cs⟩ := by rw [List.getElem?_eq_getElem hlt] at hr; exact Option.some.inj hr
  have hrt : ∀ X, (rt.set r X)[r]? = some X := fun X => List.getElem?_set_self hlt
  refine inl_of Tryz.tabOk mixOrd _ Tryz.func36 rfl rfl ?_
  conv => whnf
  repeat' first
    | (refine forceR_to (l' := rt) (by simp [nextSt, wrL]) ?_; conv => whnf)
    | (rw [forceN_eq]; conv => whnf)
    | (refine And.intro vOb ?_; conv => whnf)
  have e0 : rt.set r (some ⟨false, sz, updB cs p (fun _ => ints (mkd k l 0))⟩) = rt := by
    rw [show updB cs p (fun _ => ints (mkd k l 0)) = cs from (updB_congr _ (fun x => x) p cs _ hg rfl).trans (updB_id p cs), ← hr', List.set_getElem_self]
  refine loop_rule Tryz.tabOk mixOrd (α := Nat) (fun i => ⟨[.ref r p 1 0 l.length, dint (k + i), .undef, .undef, .undef, dint i] ++ List.replicate (Tryz.f36.ntmps - 6) .undef, rt.set r (some ⟨false, sz, updB cs p (fun _ => ints (mkd k l i))⟩)⟩)
    (fun i => i ≤ l.length) (fun i => l.length - i) 0 (by omega) ?_ (fun i hi => ?_)
  · simp only [e0]
    refine Weak.env ?_
    conv => whnf
    repeat' first
      | exact trivial
      | (refine And.intro (Or.inl rfl) ?_; conv => whnf)
      | (refine And.intro (Or.inr rfl) ?_; conv => whnf)
      | (refine And.intro (Or.inr (congrArg dint (by omega))) ?_; conv => whnf)
  have hst : StoreRow (updB cs p (fun _ => ints (mkd k l i))) p (place 1 0 (i : Int).toNat) (dint (k + i)) (updB cs p (fun _ => ints (mkd k l (i + 1)))) ∨ ¬ i < l.length := by
    by_cases h' : i < l.length
    · refine .inl ⟨_, getB_updB _ p cs _ hg, by simp [place, mkd_length k l hi, h'], fun x hx => ?_, ?_⟩
      · simp only [ints, List.getElem?_map, Option.map_eq_some_iff] at hx
        obtain ⟨a, _, rfl⟩ := hx; rfl
      · rw [updB_updB _ _ p cs _ hg]
        refine updB_congr _ _ p cs _ hg ?_
        show (ints _).set (place 1 0 (i : Int).toNat) _ = _
        rw [place1, Int.toNat_natCast, Nat.zero_add, ints_set, mkd_set k l h']
    · exact .inr h'
  have hwr : ∀ X Y (d : D) rd, wrOk (rt.set r X) { val := d, wr := [(r, Y)], rd := rd } = true := fun X Y d rd => by simp [wrOk, Nat.blt_eq, hlt]
  conv => whnf
  repeat' first
    | (refine forceR_to (l' := rt.set r (some ⟨false, sz, updB cs p (fun _ => ints (mkd k l i))⟩)) (by first | (simp [nextSt, wrL]; done) | fail) ?_; conv => whnf)
    | (refine forceR_to (l' := rt.set r (some ⟨false, sz, updB cs p (fun _ => ints (mkd k l (i + 1)))⟩)) (by first | (simp [nextSt, wrL, List.set_set]; done) | fail) ?_; conv => whnf)
    | (rw [forceN_eq]; conv => whnf)
    | (refine And.intro (fun h => ?_) (fun h => ?_) <;> conv => whnf)
    | (refine And.intro vOb ?_; conv => whnf)
    | (simp only [rtOf, hrt]; conv => whnf)
    | (apply Exists.intro; refine And.intro (hst.resolve_right (by omega)) ?_; conv => whnf)
    | (rw [hwr]; conv => whnf)
    | fail
  · refine Exists.intro (i + 1) (And.intro (by omega) (And.intro (by omega) ?_))
    refine Weak.env ?_
    conv => whnf
    repeat' first
      | exact trivial
      | (refine And.intro (Or.inl rfl) ?_; conv => whnf)
      | (refine And.intro (Or.inr rfl) ?_; conv => whnf)
      | (refine And.intro (Or.inr (congrArg dint (by omega))) ?_; conv => whnf)
  · have e : i = l.length := by omega
    subst e
    rw [show mkd k l l.length = marks k l.length by simp [mkd]]
    exact hK
theorem inlMark {env : List D} {rt : List (Option Root)} {r : Nat} {n : Nat} {l : List Int} {k : Int} {K : D → List (Option Root) → Prop} (hr : rt[r]? = some (some ⟨false, 1, ints l⟩)) (hn : n = l.length)
    (hk : 0 ≤ k ∧ k + l.length ≤ 4611686018427387904) (hK : K (dint (k + l.length)) (rt.set r (some ⟨false, 1, ints (marks k l.length)⟩))) :
    inlK Tryz.prog Tryz.tab (.fn (.func 36) [] []) [.ref r [] 1 0 n, dint k] ⟨env, rt⟩ K := by
  subst hn; exact inl_mark _ _ _ [] _ _ _ _ _ hr rfl hk hK
end Go.Proofs

