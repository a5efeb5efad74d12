/- Small aids: contracts of weaker arguments, ranges, rows of numbers. -/
import Derived.Test.YtnonhialafcjmaaVm24
import Derived.IntWalk
set_option linter.unusedVariables false
set_option linter.unusedSimpArgs false
set_option linter.unusedSectionVars false
namespace Go.Vm
open Go Go.RowKit

theorem inR64 {n : Int} (h1 : -9223372036854775808 ≤ n) (h2 : n ≤ 9223372036854775807) : inR .i64 n := IntWalk.i64_in n ⟨h1, h2⟩

/-- What reads as d reads as d'. -/
def SubD (d d' : D) : Prop := ∀ (w : World) (ok : Nat → Prop) v, Sh w ok d v → Sh w ok d' v
theorem SubD.rfl (d : D) : SubD d d := fun _ _ _ h => h
theorem SubD.list (o o' : Bool) (sz : Nat) (cs : List D) : SubD (.list o sz cs) (.list o' sz cs) := by
  intro w ok v h
  cases h with
  | nil => exact .nil o' sz
  | wild _ _ ad => exact .wild o' sz ad
  | list _ _ _ b off len cap hl hlc hb hc hr => exact .list o' sz cs b off len cap hl hlc hb hc hr
theorem SubD.nil (o : Bool) (sz : Nat) : SubD (.lit (.slice none 0 0)) (.list o sz []) := by
  intro w ok v h
  cases h; exact .nil o sz
theorem SubD.kb (b : Bool) : SubD (.kb b) (.lit (.bool b)) := by
  intro w ok v h
  cases h; exact .lit _
theorem SubD.agg {ds ds' : List D} (hl : ds.length = ds'.length) (h : ∀ (i : Nat) d d', ds[i]? = some d → ds'[i]? = some d' → SubD d d') : SubD (.agg ds) (.agg ds') := by
  intro w ok v hv
  cases hv with
  | agg _ vs hl' hr =>
    refine .agg _ _ (by rw [hl', hl]) (fun i d v hd hv => ?_)
    obtain ⟨y, hy⟩ := at_of_len hl.symm hd
    exact h i y d hy hd w ok v (hr i y v hy hv)

theorem PureCall.mono {P : Program} {f : FuncId} {args args' : List D} {rs : D} (h : PureCall P f args' rs) (hl : args.length = args'.length)
    (hs : ∀ (i : Nat) d d', args[i]? = some d → args'[i]? = some d' → SubD d d') : PureCall P f args rs := by
  intro w vals n hsz hv
  refine h w vals n (by rw [hsz, hl]) (fun i d' v hd' hv' => ?_)
  obtain ⟨d, hd⟩ := at_of_len hl.symm hd'
  exact hs i d d' hd hd' w _ v (hv i d v hd hv')

/-- A row of numbers. -/
abbrev dint (n : Int) : D := .lit (.int .i64 n)
def ints (l : List Int) : List D := l.map dint
@[simp] theorem ints_length (l : List Int) : (ints l).length = l.length := by simp [ints]
@[simp] theorem ints_nil : ints [] = [] := rfl
theorem ints_cons (a : Int) (l : List Int) : ints (a :: l) = dint a :: ints l := rfl
theorem ints_append (l m : List Int) : ints l ++ ints m = ints (l ++ m) := by simp [ints]
theorem ints_at {l : List Int} {i : Nat} {x : Int} (h : l[i]? = some x) : (ints l)[i]? = some (dint x) := by simp [ints, h]
theorem ints_set (l : List Int) (i : Nat) (x : Int) : (ints l).set i (dint x) = ints (l.set i x) := by simp [ints, List.map_set]
theorem ints_replicate (n : Nat) (x : Int) : List.replicate n (dint x) = ints (List.replicate n x) := by simp [ints]
theorem ints_take (l : List Int) (n : Nat) : (ints l).take n = ints (l.take n) := by simp [ints, List.map_take]
theorem ints_drop (l : List Int) (n : Nat) : (ints l).drop n = ints (l.drop n) := by simp [ints, List.map_drop]
theorem ints_inj : ∀ {l m : List Int}, ints l = ints m → l = m
  | [], [], _ => rfl
  | [], _ :: _, h => by simp [ints] at h
  | _ :: _, [], h => by simp [ints] at h
  | a :: l, b :: m, h => by
    simp only [ints_cons, List.cons.injEq, D.lit.injEq, Value.int.injEq, true_and] at h
    rw [h.1, ints_inj h.2]
theorem ints_plain (l : List Int) : ∀ x ∈ ints l, PlainD x := by
  intro x hx
  simp only [ints, List.mem_map] at hx
  obtain ⟨a, _, rfl⟩ := hx
  exact .lit _

theorem LoadRow.ints {l : List Int} {i : Nat} {x : Int} (h : l[i]? = some x) : LoadRow (ints l) [] i (dint x) := ⟨_, rfl, ints_at h⟩
theorem StoreRow.ints {l : List Int} {i : Nat} (x : Int) (h : i < l.length) : StoreRow (ints l) [] i (dint x) (ints (l.set i x)) := by
  refine ⟨_, rfl, by simpa using h, fun y hy => ?_, ?_⟩
  · simp only [Go.Vm.ints, List.getElem?_map, Option.map_eq_some_iff] at hy
    obtain ⟨a, _, rfl⟩ := hy
    rfl
  · show (Go.Vm.ints l).set i (dint x) = _
    exact ints_set l i x

abbrev dbool (b : Bool) : D := .lit (.bool b)
theorem dbool_congr {a b : Bool} (h : a = b) : dbool a = dbool b := by rw [h]
theorem cnt1 (cs : List D) : cnt 1 cs = cs.length := rfl
theorem place1 (off j : Nat) : place 1 off j = off + j := rfl
theorem ints_get {l : List Int} {k : Nat} (h : k < l.length) : (ints l)[k]? = some (dint (l.getD k 0)) := by
  rw [ints_at (List.getElem?_eq_getElem h)]; simp [h]
theorem load_ints {l : List Int} {k : Nat} (h : k < l.length) : LoadRow (ints l) [] k (dint (l.getD k 0)) := ⟨_, rfl, ints_get h⟩
theorem room {n b : Nat} (h1 : n * b ≤ 140737488355328) (h2 : n ≤ 140737488355328) : roomOk n b := ⟨h1, h2⟩
theorem room8 {n b : Nat} (hb : b = 8) (h1 : n ≤ 17592186044416) : roomOk n b := ⟨by subst hb; omega, by omega⟩
theorem replN_ints (n : Nat) (x : Int) : replN n [dint x] = ints (List.replicate n x) := ints_replicate n x

theorem eqV_int {k : IntKind} {a b : Int} (h : a = b) : eqV (.int k a) (.int k b) := by
  subst h
  show chk (ikEq k k) (a = a)
  cases k <;> exact rfl

theorem sub_ints {l : List Int} {n : Nat} (h : n = l.length) : sub (ints l) 1 0 n = ints l := by
  subst h
  simp [sub, ints, List.take_of_length_le]
theorem sub_ints' (l : List Int) (off n : Nat) : sub (ints l) 1 off n = ints ((l.drop off).take n) := by
  simp [sub, ints, List.map_take, List.map_drop]

end Go.Vm
