/- An operation's result hangs only on its operands and on the roots that it looks at. -/
import Derived.Test.YtnonhialafcjmaaVm16
set_option linter.unusedVariables false
set_option linter.unusedSimpArgs false
set_option linter.unusedSectionVars false
namespace Go.Vm
open Go Go.RowKit

theorem chk_intro {b : Bool} {p : Prop} (hb : b = true) (h : p) : chk b p := by subst hb; exact h

theorem intK_ext {k : IntKind} {m : Int} {K : Res → Prop} (h : intK k m K) : ∃ res, K res ∧ res.rd = [] ∧ intK k m (· = res) := ⟨_, h.2, rfl, h.1, rfl⟩
theorem boolP_ext {p : Prop} {K : Res → Prop} (h : boolP p K) : ∃ res, K res ∧ res.rd = [] ∧ boolP p (· = res) := by
  by_cases hp : p
  · exact ⟨_, h.1 hp, rfl, fun _ => rfl, fun hn => absurd hp hn⟩
  · exact ⟨_, h.2 hp, rfl, fun hq => absurd hq hp, fun _ => rfl⟩

theorem binK_ext {T : Tab} {t : Nat} {op : BinOp} {x y : D} {K : Res → Prop} (h : binK T t op x y K) : ∃ res, K res ∧ binK T t op x y (· = res) := by
  unfold binK at *
  split at h
  · have h1 := chk_and h; clear h; obtain ⟨hk, h⟩ := h1
    cases op <;> simp only at h ⊢
    case add => obtain ⟨res, h1, _, h2⟩ := intK_ext h; exact ⟨res, h1, chk_intro hk h2⟩
    case sub => obtain ⟨res, h1, _, h2⟩ := intK_ext h; exact ⟨res, h1, chk_intro hk h2⟩
    case mul => obtain ⟨res, h1, _, h2⟩ := intK_ext h; exact ⟨res, h1, chk_intro hk h2⟩
    case quo => obtain ⟨res, h1, _, h2⟩ := intK_ext h.2; exact ⟨res, h1, chk_intro hk ⟨h.1, h2⟩⟩
    case rem => exact ⟨_, h.2, chk_intro hk ⟨h.1, rfl⟩⟩
    case eql => obtain ⟨res, h1, _, h2⟩ := boolP_ext h; exact ⟨res, h1, chk_intro hk h2⟩
    case neq => obtain ⟨res, h1, _, h2⟩ := boolP_ext h; exact ⟨res, h1, chk_intro hk h2⟩
    case lss => obtain ⟨res, h1, _, h2⟩ := boolP_ext h; exact ⟨res, h1, chk_intro hk h2⟩
    case leq => obtain ⟨res, h1, _, h2⟩ := boolP_ext h; exact ⟨res, h1, chk_intro hk h2⟩
    case gtr => obtain ⟨res, h1, _, h2⟩ := boolP_ext h; exact ⟨res, h1, chk_intro hk h2⟩
    case geq => obtain ⟨res, h1, _, h2⟩ := boolP_ext h; exact ⟨res, h1, chk_intro hk h2⟩
  · have h1 := chk_and h; clear h; obtain ⟨hk, h⟩ := h1
    cases op <;> simp only at h ⊢
    case eql => exact ⟨_, h, chk_intro hk rfl⟩
    case neq => exact ⟨_, h, chk_intro hk rfl⟩
  · exact h.elim

theorem unK_ext {op : UnOp} {x : D} {K : Res → Prop} (h : unK op x K) : ∃ res, K res ∧ unK op x (· = res) := by
  unfold unK at *
  split at h
  · obtain ⟨res, h1, _, h2⟩ := intK_ext h; exact ⟨res, h1, h2⟩
  · exact ⟨_, h, rfl⟩
  · exact h.elim

theorem convK_ext {T : Tab} {s d : Nat} {x : D} {K : Res → Prop} (h : convK T s d x K) : ∃ res, K res ∧ convK T s d x (· = res) := by
  unfold convK at *
  have h1 := chk_and h; clear h; obtain ⟨hk, h⟩ := h1
  split at h
  · rename_i e1; obtain ⟨res, h1, _, h2⟩ := intK_ext h; exact ⟨res, h1, chk_intro hk (by first | exact h2 | (rw [e1]; exact h2))⟩
  · exact h.elim

section
variable {T : Tab} {rt : RT} {n : Nat} {K : Res → Prop}

/-- What is said of each: a result, and that it comes again wherever the roots looked at are the same. -/
def Again (F : RT → (Res → Prop) → Prop) (rt : RT) (K : Res → Prop) : Prop := ∃ res, K res ∧ ∀ rt' : RT, (∀ r ∈ res.rd, rt' r = rt r) → F rt' (· = res)

theorem fieldAddrK_ext {s : Nat} {x : D} {f : Nat} (h : fieldAddrK T rt s x f K) : Again (fun rt K => fieldAddrK T rt s x f K) rt K := by
  unfold fieldAddrK at h
  have h1 := chk_and h; clear h; obtain ⟨hk, h⟩ := h1
  split at h
  · rename_i e1
    have h1 := chk_and h; clear h; obtain ⟨hk2, h⟩ := h1
    split at h
    · rename_i hR
      refine ⟨_, h, fun rt' hrt => ?_⟩
      unfold fieldAddrK
      have := hrt _ List.mem_cons_self
      rw [hR] at this
      refine chk_intro hk ?_
      try simp only [e1]
      refine chk_intro hk2 ?_
      try simp only [this]
    · exact h.elim
  · rename_i e1
    have h1 := chk_and h; clear h; obtain ⟨hk2, h⟩ := h1
    refine ⟨_, h, fun rt' hrt => ?_⟩
    unfold fieldAddrK
    refine chk_intro hk ?_
    try simp only [e1]
    exact chk_intro hk2 (by first | rfl | trivial)
  · exact h.elim

theorem fieldK_ext {s : Nat} {x : D} {f : Nat} (h : fieldK T s x f K) : ∃ res, K res ∧ fieldK T s x f (· = res) := by
  unfold fieldK at *
  have h1 := chk_and h; clear h; obtain ⟨hk, h⟩ := h1
  split at h
  · rename_i e1
    have h1 := chk_and h; clear h; obtain ⟨hk2, h⟩ := h1
    split at h
    · rename_i hagg
      have h1 := chk_and h; clear h; obtain ⟨hk3, h⟩ := h1
      refine ⟨_, h, chk_intro hk ?_⟩
      try simp only [e1]
      refine chk_intro hk2 ?_
      try simp only [hagg]
      exact chk_intro hk3 (by first | rfl | trivial)
    · rename_i hagg
      split at h
      · rename_i hd
        refine ⟨_, h, chk_intro hk ?_⟩
        try simp only [e1]
        refine chk_intro hk2 ?_
        try simp only [hagg, hd]
      · exact h.elim
  · exact h.elim

theorem indexAddrK_ext {t : Nat} {x i : D} (h : indexAddrK T rt t x i K) : Again (fun rt K => indexAddrK T rt t x i K) rt K := by
  unfold indexAddrK at h
  have h1 := chk_and h; clear h; obtain ⟨hk, h⟩ := h1
  split at h
  · rename_i e1
    have h1 := chk_and h; clear h; obtain ⟨hk2, h⟩ := h1
    split at h
    · rename_i hR
      refine ⟨_, h.2, fun rt' hrt => ?_⟩
      unfold indexAddrK
      have := hrt _ List.mem_cons_self
      rw [hR] at this
      refine chk_intro hk ?_
      try simp only [e1]
      refine chk_intro hk2 ?_
      try simp only [this]
      exact ⟨h.1, by first | rfl | trivial⟩
    · exact h.elim
  · rename_i e1
    have h1 := chk_and h; clear h; obtain ⟨hk2, h⟩ := h1
    refine ⟨_, h.2, fun rt' hrt => ?_⟩
    unfold indexAddrK
    refine chk_intro hk ?_
    try simp only [e1]
    exact chk_intro hk2 ⟨h.1, by first | rfl | trivial⟩
  · exact h.elim

theorem sliceK_ext {t : Nat} {x : D} {lo hi mx : Option D} (h : sliceK T rt t x lo hi mx K) : Again (fun rt K => sliceK T rt t x lo hi mx K) rt K := by
  unfold sliceK at h
  split at h
  · rename_i e1
    have h1 := chk_and h; clear h; obtain ⟨hk2, h⟩ := h1
    split at h
    · rename_i hR
      split at h <;> first | exact h.elim | skip
      all_goals
        refine ⟨_, h.2, fun rt' hrt => ?_⟩
        unfold sliceK
        have := hrt _ List.mem_cons_self
        rw [hR] at this
        try simp only [e1]
        refine chk_intro hk2 ?_
        try simp only [this]
        exact ⟨h.1, by first | rfl | trivial⟩
    · exact h.elim
  · rename_i e1
    have h1 := chk_and h; clear h; obtain ⟨hk2, h⟩ := h1
    split at h <;> first | exact h.elim | skip
    all_goals
      obtain ⟨hb, cs', hcs, h⟩ := h
      refine ⟨_, h, fun rt' hrt => ?_⟩
      unfold sliceK
      try simp only [e1]
      exact chk_intro hk2 ⟨hb, cs', hcs, by first | rfl | trivial⟩
  · exact h.elim

theorem loadK_ext {t : Nat} {a : D} (h : loadK T rt t a K) : Again (fun rt K => loadK T rt t a K) rt K := by
  unfold loadK at h
  have h1 := chk_and h; clear h; obtain ⟨hk, h⟩ := h1
  split at h
  · split at h
    · rename_i hR
      split at h
      · rename_i hbox
        split at h
        · split at h
          · rename_i hagg
            have h1 := chk_and h; clear h; obtain ⟨hk2, h⟩ := h1
            refine ⟨_, h, fun rt' hrt => ?_⟩
            unfold loadK
            have := hrt _ List.mem_cons_self
            rw [hR] at this
            refine chk_intro hk ?_
            try simp only [this, hbox, hagg]
            exact chk_intro hk2 (by first | rfl | trivial)
          · rename_i hagg
            split at h
            · rename_i hd
              refine ⟨_, h, fun rt' hrt => ?_⟩
              unfold loadK
              have := hrt _ List.mem_cons_self
              rw [hR] at this
              refine chk_intro hk ?_
              try simp only [this, hbox, hagg, hd]
            · exact h.elim
        · exact h.elim
      · rename_i hbox
        split at h
        · rename_i hagg
          obtain ⟨ds, hds, h⟩ := h
          refine ⟨_, h, fun rt' hrt => ?_⟩
          unfold loadK
          have := hrt _ List.mem_cons_self
          rw [hR] at this
          refine chk_intro hk ?_
          try simp only [this, hbox, hagg]
          exact ⟨ds, hds, by first | rfl | trivial⟩
        · rename_i hagg
          obtain ⟨ds, hds, h⟩ := h
          refine ⟨_, h, fun rt' hrt => ?_⟩
          unfold loadK
          have := hrt _ List.mem_cons_self
          rw [hR] at this
          refine chk_intro hk ?_
          try simp only [this, hbox, hagg]
          exact ⟨ds, hds, by first | rfl | trivial⟩
    · exact h.elim
  · split at h
    · rename_i hagg
      obtain ⟨ds, h1, h2, h⟩ := h
      refine ⟨_, h, fun rt' hrt => ?_⟩
      unfold loadK
      refine chk_intro hk ?_
      try simp only [hagg]
      exact ⟨ds, h1, h2, by first | rfl | trivial⟩
    · rename_i hagg
      obtain ⟨ds, h1, h⟩ := h
      refine ⟨_, h, fun rt' hrt => ?_⟩
      unfold loadK
      refine chk_intro hk ?_
      try simp only [hagg]
      exact ⟨ds, h1, by first | rfl | trivial⟩
  · exact h.elim

theorem storeK_ext {t : Nat} {a x : D} (h : storeK T rt t a x K) : Again (fun rt K => storeK T rt t a x K) rt K := by
  unfold storeK at h
  have h1 := chk_and h; clear h; obtain ⟨hk, h⟩ := h1
  split at h
  · split at h
    · rename_i hR
      split at h
      · rename_i hbox
        split at h
        · rename_i e1
          have h1 := chk_and h; clear h; obtain ⟨hk2, h⟩ := h1
          refine ⟨_, h, fun rt' hrt => ?_⟩
          unfold storeK
          have := hrt _ List.mem_cons_self
          rw [hR] at this
          refine chk_intro hk ?_
          try simp only [this, hbox, e1]
          exact chk_intro hk2 (by first | rfl | trivial)
        · exact h.elim
      · rename_i hbox
        have h1 := chk_and h; clear h; obtain ⟨hk2, h⟩ := h1
        split at h
        · have h1 := chk_and h; clear h; obtain ⟨hk3, h⟩ := h1
          obtain ⟨cs', h1, h⟩ := h
          refine ⟨_, h, fun rt' hrt => ?_⟩
          unfold storeK
          have := hrt _ List.mem_cons_self
          rw [hR] at this
          refine chk_intro hk ?_
          try simp only [this, hbox]
          exact chk_intro hk2 (chk_intro hk3 ⟨cs', h1, by first | rfl | trivial⟩)
        · obtain ⟨cs', h1, h⟩ := h
          refine ⟨_, h, fun rt' hrt => ?_⟩
          unfold storeK
          have := hrt _ List.mem_cons_self
          rw [hR] at this
          refine chk_intro hk ?_
          try simp only [this, hbox]
          exact chk_intro hk2 ⟨cs', h1, by first | rfl | trivial⟩
        · have h1 := chk_and h; clear h; obtain ⟨hk3, h⟩ := h1
          split at h
          · rename_i hR'
            have h1 := chk_and h; clear h; obtain ⟨hk4, h⟩ := h1
            obtain ⟨g1, g2, g3, cs', g4, h⟩ := h
            refine ⟨_, h, fun rt' hrt => ?_⟩
            unfold storeK
            have t1 := hrt _ List.mem_cons_self
            rw [hR] at t1
            have t2 := hrt _ (List.mem_cons_of_mem _ List.mem_cons_self)
            rw [hR'] at t2
            refine chk_intro hk ?_
            try simp only [t1, t2, hbox]
            exact chk_intro hk2 (chk_intro hk3 (chk_intro hk4 ⟨g1, g2, g3, cs', g4, by first | rfl | trivial⟩))
          · exact h.elim
        · exact h.elim
    · exact h.elim
  · exact h.elim

theorem lenK_ext {t : Nat} {x : D} (h : lenK T rt t x K) : Again (fun rt K => lenK T rt t x K) rt K := by
  unfold lenK at h
  have h1 := chk_and h; clear h; obtain ⟨hk, h⟩ := h1
  split at h
  · rename_i e1
    split at h
    · rename_i hR
      refine ⟨_, h, fun rt' hrt => ?_⟩
      unfold lenK
      have := hrt _ List.mem_cons_self
      rw [hR] at this
      refine chk_intro hk ?_
      try simp only [e1, this]
    · exact h.elim
  · rename_i e1
    have h1 := chk_and h; clear h; obtain ⟨hk2, h⟩ := h1
    refine ⟨_, h, fun rt' hrt => ?_⟩
    unfold lenK
    refine chk_intro hk ?_
    try simp only [e1]
    exact chk_intro hk2 (by first | rfl | trivial)
  · rename_i e1
    refine ⟨_, h, fun rt' hrt => ?_⟩
    unfold lenK
    refine chk_intro hk ?_
    try simp only [e1]
  · rename_i e1
    refine ⟨_, h, fun rt' hrt => ?_⟩
    unfold lenK
    refine chk_intro hk ?_
    try simp only [e1]
  · exact h.elim

theorem srcK_ext {e : Nat} {r0 : Option Nat} {x : D} {K : Nat → List D → Option Nat → List Nat → Prop} (h : srcK T rt e r0 x K) :
    ∃ m news c rd, K m news c rd ∧ ∀ rt' : RT, (∀ r ∈ rd, rt' r = rt r) → ∀ K' : Nat → List D → Option Nat → List Nat → Prop, K' m news c rd → srcK T rt' e r0 x K' := by
  unfold srcK at h
  split at h
  · exact ⟨_, _, _, _, h, fun rt' _ K' h' => by unfold srcK; exact h'⟩
  · have h1 := chk_and h; clear h; obtain ⟨hk, h⟩ := h1
    exact ⟨_, _, _, _, h.2, fun rt' _ K' h' => by unfold srcK; exact chk_intro hk ⟨h.1, h'⟩⟩
  · have h1 := chk_and h; clear h; obtain ⟨hk, h⟩ := h1
    split at h
    · rename_i hR
      have h1 := chk_and h; clear h; obtain ⟨hk2, h⟩ := h1
      split at h
      · rename_i hp
        obtain ⟨c, h1, h2, c', h3, h4, h⟩ := h
        refine ⟨_, _, _, _, h, fun rt' hrt K' h' => ?_⟩
        have := hrt _ List.mem_cons_self
        rw [hR] at this
        unfold srcK
        refine chk_intro hk ?_
        try simp only [this]
        refine chk_intro hk2 ?_
        try simp only [hp]
        exact ⟨c, h1, h2, c', h3, h4, h'⟩
      · rename_i hp
        split at h
        · obtain ⟨h1, h2, h⟩ := h
          refine ⟨_, _, _, _, h, fun rt' hrt K' h' => ?_⟩
          have := hrt _ List.mem_cons_self
          rw [hR] at this
          unfold srcK
          refine chk_intro hk ?_
          try simp only [this]
          refine chk_intro hk2 ?_
          try simp only [hp]
          exact ⟨h1, h2, h'⟩
        · exact h.elim
    · exact h.elim
  · exact h.elim

theorem appendK_ext {t t' : Nat} {s x : D} (h : appendK T rt n t t' s x K) : Again (fun rt K => appendK T rt n t t' s x K) rt K := by
  unfold appendK at h
  have h1 := chk_and h; clear h; obtain ⟨hk, h⟩ := h1
  split at h
  · rename_i e1
    have h1 := chk_and h; clear h; obtain ⟨hk2, h⟩ := h1
    split at h
    · obtain ⟨m, news, c, rd, ⟨h1, h2⟩, h3⟩ := srcK_ext h
      rw [forceSz_eq] at h2
      refine ⟨_, h2, fun rt' hrt => ?_⟩
      unfold appendK
      refine chk_intro hk ?_
      try simp only [e1]
      refine chk_intro hk2 ?_
      exact h3 rt' hrt _ ⟨h1, by rw [forceSz_eq]⟩
    · have h1 := chk_and h; clear h; obtain ⟨hk3, h⟩ := h1
      split at h
      · rename_i hR
        have h1 := chk_and h; clear h; obtain ⟨hk4, hm, h⟩ := h1
        obtain ⟨m, news, c, rd, ⟨h1, cs', h2, h3⟩, h4⟩ := srcK_ext h
        refine ⟨_, h3, fun rt' hrt => ?_⟩
        have := hrt _ List.mem_cons_self
        rw [hR] at this
        unfold appendK
        refine chk_intro hk ?_
        try simp only [e1]
        refine chk_intro hk2 (chk_intro hk3 ?_)
        try simp only [this]
        exact chk_intro hk4 ⟨hm, h4 rt' (fun r hr => hrt r (by simp [hr])) _ ⟨h1, cs', h2, rfl⟩⟩
      · exact h.elim
    · exact h.elim
  · exact h.elim

theorem copyK_ext {t t' : Nat} {s x : D} (h : copyK T rt t t' s x K) : Again (fun rt K => copyK T rt t t' s x K) rt K := by
  unfold copyK at h
  have h1 := chk_and h; clear h; obtain ⟨hk, h⟩ := h1
  split at h
  · rename_i e1
    have h1 := chk_and h; clear h; obtain ⟨hk2, h⟩ := h1
    split at h
    · rename_i hR
      have h1 := chk_and h; clear h; obtain ⟨hk3, h⟩ := h1
      obtain ⟨m, news, c, rd, h1, h4⟩ := srcK_ext h
      have h2 := chk_and h1; clear h1; obtain ⟨hc, b, k1, k2, k3, cs', k4, k5⟩ := h2
      refine ⟨_, k5, fun rt' hrt => ?_⟩
      have := hrt _ List.mem_cons_self
      rw [hR] at this
      unfold copyK
      refine chk_intro hk ?_
      try simp only [e1]
      refine chk_intro hk2 ?_
      try simp only [this]
      exact chk_intro hk3 (h4 rt' (fun r hr => hrt r (by simp [hr])) _ (chk_intro hc ⟨b, k1, k2, k3, cs', k4, rfl⟩))
    · exact h.elim
  · exact h.elim

theorem mapK_ext {f : RT → D → (D → List Nat → Prop) → Prop} {rt : RT}
    (hf : ∀ d K, f rt d K → ∃ d' rd, K d' rd ∧ ∀ rt' : RT, (∀ r ∈ rd, rt' r = rt r) → ∀ K' : D → List Nat → Prop, K' d' rd → f rt' d K') : ∀ (ds : List D) (K : List D → List Nat → Prop), mapK (f rt) ds K →
    ∃ ds' rd, K ds' rd ∧ ∀ rt' : RT, (∀ r ∈ rd, rt' r = rt r) → ∀ K' : List D → List Nat → Prop, K' ds' rd → mapK (f rt') ds K' := by
  intro ds
  induction ds with
  | nil => intro K h; exact ⟨_, _, h, fun rt' _ K' h' => h'⟩
  | cons d ds ih =>
    intro K h
    simp only [mapK] at h
    obtain ⟨d', rd, h1, h2⟩ := hf d _ h
    obtain ⟨ds', rd', h3, h4⟩ := ih _ h1
    refine ⟨_, _, h3, fun rt' hrt K' h' => ?_⟩
    simp only [mapK]
    exact h2 rt' (fun r hr => hrt r (by simp [hr])) _ (h4 rt' (fun r hr => hrt r (by simp [hr])) _ h')

theorem resK_ext {rt : RT} : ∀ (k : Nat) (d : D) (K : D → List Nat → Prop), resK rt k d K →
    ∃ d' rd, K d' rd ∧ ∀ rt' : RT, (∀ r ∈ rd, rt' r = rt r) → ∀ K' : D → List Nat → Prop, K' d' rd → resK rt' k d K' := by
  intro k
  induction k with
  | zero => intro d K h; exact h.elim
  | succ k ih =>
    intro d K h
    cases d with
    | undef => exact h.elim
    | kb b => exact ⟨_, _, h, fun rt' _ K' h' => h'⟩
    | lit v => exact ⟨_, _, h, fun rt' _ K' h' => h'⟩
    | list o sz cs => exact ⟨_, _, h, fun rt' _ K' h' => h'⟩
    | cptr cs off => exact ⟨_, _, h, fun rt' _ K' h' => h'⟩
    | agg ds =>
      obtain ⟨ds', rd, h1, h2⟩ := mapK_ext (f := fun rt => resK rt k) (fun d K h => ih d K h) ds _ h
      exact ⟨_, _, h1, fun rt' hrt K' h' => h2 rt' hrt _ h'⟩
    | tup ds => exact h.elim
    | fn f fs cs =>
      obtain ⟨fs', rd, h1, h2⟩ := mapK_ext (f := fun rt => resK rt k) (fun d K h => ih d K h) fs _ h
      obtain ⟨cs', rd', h3, h4⟩ := mapK_ext (f := fun rt => resK rt k) (fun d K h => ih d K h) cs _ h1
      exact ⟨_, _, h3, fun rt' hrt K' h' => h2 rt' (fun r hr => hrt r (by simp [hr])) _ (h4 rt' (fun r hr => hrt r (by simp [hr])) _ h')⟩
    | ref r p sz off m =>
      simp only [resK] at h
      split at h
      · rename_i R hR
        obtain ⟨h1, c, h2, h3, c', h4, h5⟩ := h
        refine ⟨_, _, h5, fun rt' hrt K' h' => ?_⟩
        have := hrt _ List.mem_cons_self
        rw [hR] at this
        simp only [resK, this]
        exact ⟨h1, c, h2, h3, c', h4, h'⟩
      · exact h.elim
    | ptr r p off =>
      simp only [resK] at h
      split at h
      · rename_i R hR
        split at h
        · rename_i hbox
          obtain ⟨hp, h⟩ := h
          obtain ⟨ds', rd, h1, h2⟩ := mapK_ext (f := fun rt => resK rt k) (fun d K h => ih d K h) R.cs _ h
          refine ⟨_, _, h1, fun rt' hrt K' h' => ?_⟩
          have := hrt r (by simp)
          rw [hR] at this
          simp only [resK, this, if_pos hbox]
          exact ⟨hp, h2 rt' (fun r hr => hrt r (by simp [hr])) _ h'⟩
        · rename_i hbox
          obtain ⟨c, h1, h⟩ := h
          refine ⟨_, _, h, fun rt' hrt K' h' => ?_⟩
          have := hrt r (by simp)
          rw [hR] at this
          simp only [resK, this, if_neg hbox]
          exact ⟨c, h1, h'⟩
      · exact h.elim

theorem pureCallK_ext {P : Program} {f : D} {args : List D} (h : pureCallK P rt n f args K) : Again (fun rt K => pureCallK P rt n f args K) rt K := by
  unfold pureCallK at h
  split at h
  · obtain ⟨ds, rd, ⟨rs, h1, h2⟩, h3⟩ := mapK_ext (f := fun rt => resK rt 6) (fun d K h => resK_ext 6 d K h) _ _ h
    refine ⟨_, h2, fun rt' hrt => ?_⟩
    unfold pureCallK
    exact h3 rt' hrt _ ⟨rs, h1, rfl⟩
  · exact h.elim

theorem aggCallK_ext {P : Program} {f : D} {args : List D} (h : aggCallK P rt f args K) : Again (fun rt K => aggCallK P rt f args K) rt K := by
  unfold aggCallK at h
  split at h
  · split at h
    · split at h
      · rename_i hR
        refine ⟨_, h.2, fun rt' hrt => ?_⟩
        have := hrt _ List.mem_cons_self
        rw [hR] at this
        unfold aggCallK
        simp only [this]
        exact ⟨h.1, trivial⟩
      · exact h.elim
    · exact h.elim
  · exact h.elim

theorem buildSliceK_ext {t len : Nat} {parts : List (Nat × D)} (h : buildSliceK T rt n t len parts K) : Again (fun rt K => buildSliceK T rt n t len parts K) rt K := by
  unfold buildSliceK at h
  have h1 := chk_and h; clear h; obtain ⟨hk, h⟩ := h1
  split at h
  · rename_i e1
    have h1 := chk_and h; clear h; obtain ⟨hk2, h⟩ := h1
    split at h
    · rename_i e2
      have h1 := chk_and h; clear h; obtain ⟨hk3, h⟩ := h1
      split at h
      · rename_i hR
        have h1 := chk_and h; clear h; obtain ⟨hk4, h⟩ := h1
        refine ⟨_, h.2, fun rt' hrt => ?_⟩
        have := hrt _ List.mem_cons_self
        rw [hR] at this
        unfold buildSliceK
        refine chk_intro hk ?_
        try simp only [e1]
        refine chk_intro hk2 ?_
        try simp only [e2]
        refine chk_intro hk3 ?_
        try simp only [this]
        exact chk_intro hk4 ⟨h.1, by first | rfl | trivial⟩
      · exact h.elim
    · rename_i e2
      split at h
      · rename_i e3
        have h1 := chk_and h; clear h; obtain ⟨hk4, h⟩ := h1
        rw [forceSz_eq, forceL_eq] at h
        refine ⟨_, h, fun rt' hrt => ?_⟩
        unfold buildSliceK
        refine chk_intro hk ?_
        try simp only [e1]
        refine chk_intro hk2 ?_
        try simp only [e2, e3]
        exact chk_intro hk4 (by rw [forceSz_eq, forceL_eq])
      · exact h.elim
  · exact h.elim

theorem nilCheckK_ext {x : D} (h : nilCheckK rt x K) : Again (fun rt K => nilCheckK rt x K) rt K := by
  unfold nilCheckK at h
  split at h
  · split at h
    · rename_i hR
      refine ⟨_, h, fun rt' hrt => ?_⟩
      have := hrt _ List.mem_cons_self
      rw [hR] at this
      unfold nilCheckK
      try simp only [this]
    · exact h.elim
  · exact ⟨_, h, fun rt' _ => by unfold nilCheckK; rfl⟩
  · exact h.elim

theorem evK_ext {P : Program} {env : List D} {op : Op} (h : evK P T env rt n op K) : ∃ res, K res ∧ ∀ (env' : List D) (rt' : RT), (∀ x ∈ op.operands, evO env' x = evO env x) → (∀ r ∈ res.rd, rt' r = rt r) → evK P T env' rt' n op (· = res) := by
  have pairs : ∀ (env' : List D) (ps : Array (Nat × Operand)), (∀ x ∈ (ps.toList.map (·.2)).toArray, evO env' x = evO env x) → ps.toList.map (fun (i, x) => (i, evO env' x)) = ps.toList.map (fun (i, x) => (i, evO env x)) := fun env' ps hp =>
    List.map_congr_left fun p hm => by
      obtain ⟨i, x⟩ := p
      simp only [hp x (by simp; exact ⟨i, by simpa using hm⟩)]
  have lists : ∀ (env' : List D) (xs : Array Operand), (∀ x ∈ xs, evO env' x = evO env x) → xs.toList.map (evO env') = xs.toList.map (evO env) := fun env' xs hx => List.map_congr_left fun x hm => hx x (by simpa using hm)
  cases op <;> simp only [evK] at h <;> try exact h.elim
  case move x => exact ⟨_, h, fun env' rt' he _ => by simp only [evK]; rw [he x (by simp [Op.operands])]⟩
  case assign x => exact ⟨_, h, fun env' rt' he _ => by simp only [evK]; rw [he x (by simp [Op.operands])]⟩
  case pick c x y =>
    split at h
    · rename_i e1
      exact ⟨_, h, fun env' rt' he _ => by simp only [evK]; rw [he c (by simp [Op.operands]), e1, he x (by simp [Op.operands])]⟩
    · rename_i e1
      exact ⟨_, h, fun env' rt' he _ => by simp only [evK]; rw [he c (by simp [Op.operands]), e1, he y (by simp [Op.operands])]⟩
    · exact h.elim
  case alloc e =>
    obtain ⟨hk, h⟩ := chk_and h
    exact ⟨_, h, fun env' rt' _ _ => by simp only [evK]; exact chk_intro hk (by first | rfl | trivial)⟩
  case box e x =>
    split at h
    · rename_i e1
      exact ⟨_, h, fun env' rt' he _ => by simp only [evK]; rw [he x (by simp [Op.operands]), e1]⟩
    · exact h.elim
  case build t parts =>
    unfold buildK at h
    have h1 := chk_and h; clear h; obtain ⟨hk, h⟩ := h1
    split at h
    · rename_i e1
      split at h
      · rename_i e2
        have h1 := chk_and h; clear h; obtain ⟨hk2, h⟩ := h1
        refine ⟨_, h, fun env' rt' he _ => ?_⟩
        simp only [evK]
        rw [pairs env' parts (fun x hx => he x (by simpa [Op.operands] using hx))]
        unfold buildK
        refine chk_intro hk ?_
        try simp only [e1, e2]
        exact chk_intro hk2 (by first | rfl | trivial)
      · exact h.elim
    · exact h.elim
  case buildSlice t len parts =>
    obtain ⟨res, h1, h2⟩ := buildSliceK_ext h
    refine ⟨res, h1, fun env' rt' he hrt => ?_⟩
    simp only [evK]
    rw [pairs env' parts (fun x hx => he x (by simpa [Op.operands] using hx))]
    exact h2 rt' hrt
  case load t x =>
    obtain ⟨res, h1, h2⟩ := loadK_ext h
    exact ⟨res, h1, fun env' rt' he hrt => by simp only [evK]; rw [he x (by simp [Op.operands])]; exact h2 rt' hrt⟩
  case store t x y =>
    obtain ⟨res, h1, h2⟩ := storeK_ext h
    exact ⟨res, h1, fun env' rt' he hrt => by simp only [evK]; rw [he x (by simp [Op.operands]), he y (by simp [Op.operands])]; exact h2 rt' hrt⟩
  case nilCheck x =>
    obtain ⟨res, h1, h2⟩ := nilCheckK_ext h
    exact ⟨res, h1, fun env' rt' he hrt => by simp only [evK]; rw [he x (by simp [Op.operands])]; exact h2 rt' hrt⟩
  case binOp op t x y t' =>
    obtain ⟨res, h1, h2⟩ := binK_ext h
    exact ⟨res, h1, fun env' rt' he _ => by simp only [evK]; rw [he x (by simp [Op.operands]), he y (by simp [Op.operands])]; exact h2⟩
  case unOp op t x =>
    obtain ⟨res, h1, h2⟩ := unK_ext h
    exact ⟨res, h1, fun env' rt' he _ => by simp only [evK]; rw [he x (by simp [Op.operands])]; exact h2⟩
  case convert s d x =>
    obtain ⟨res, h1, h2⟩ := convK_ext h
    exact ⟨res, h1, fun env' rt' he _ => by simp only [evK]; rw [he x (by simp [Op.operands])]; exact h2⟩
  case makeFunc fn first captured =>
    refine ⟨_, h, fun env' rt' he _ => ?_⟩
    simp only [evK]
    rw [lists env' first (fun x hx => he x (by simp [Op.operands, hx])), lists env' captured (fun x hx => he x (by simp [Op.operands, hx]))]
  case makeSlice t l c =>
    unfold makeK at h
    have h1 := chk_and h; clear h; obtain ⟨hk, h⟩ := h1
    split at h
    · rename_i e1 e2 e3
      have h1 := chk_and h; clear h; obtain ⟨hk2, h⟩ := h1
      obtain ⟨h0, k0, hk0, h⟩ := h
      rw [forceSz_eq] at h
      obtain ⟨cs0, hcs0, h⟩ := h
      refine ⟨_, h, fun env' rt' he _ => ?_⟩
      simp only [evK]
      rw [he l (by simp [Op.operands]), he c (by simp [Op.operands])]
      unfold makeK
      refine chk_intro hk ?_
      try simp only [e1, e2, e3]
      exact chk_intro hk2 ⟨h0, k0, hk0, by rw [forceSz_eq]; exact ⟨cs0, hcs0, rfl⟩⟩
    · exact h.elim
  case slice t x lo hi mx =>
    obtain ⟨res, h1, h2⟩ := sliceK_ext h
    refine ⟨res, h1, fun env' rt' he hrt => ?_⟩
    simp only [evK]
    have hl : lo.map (evO env') = lo.map (evO env) := by cases lo with
      | none => rfl
      | some y => simp only [Option.map_some]; rw [he y (by simp [Op.operands])]
    have hh : hi.map (evO env') = hi.map (evO env) := by cases hi with
      | none => rfl
      | some y => simp only [Option.map_some]; rw [he y (by simp [Op.operands])]
    have hm : mx.map (evO env') = mx.map (evO env) := by cases mx with
      | none => rfl
      | some y => simp only [Option.map_some]; rw [he y (by simp [Op.operands])]
    rw [he x (by simp [Op.operands]), hl, hh, hm]
    exact h2 rt' hrt
  case fieldAddr s x f =>
    obtain ⟨res, h1, h2⟩ := fieldAddrK_ext h
    exact ⟨res, h1, fun env' rt' he hrt => by simp only [evK]; rw [he x (by simp [Op.operands])]; exact h2 rt' hrt⟩
  case field s x f =>
    obtain ⟨res, h1, h2⟩ := fieldK_ext h
    exact ⟨res, h1, fun env' rt' he _ => by simp only [evK]; rw [he x (by simp [Op.operands])]; exact h2⟩
  case indexAddr t x i =>
    obtain ⟨res, h1, h2⟩ := indexAddrK_ext h
    exact ⟨res, h1, fun env' rt' he hrt => by simp only [evK]; rw [he x (by simp [Op.operands]), he i (by simp [Op.operands])]; exact h2 rt' hrt⟩
  case extract x i =>
    unfold extractK at h
    split at h
    · rename_i e1
      split at h
      · rename_i e2
        refine ⟨_, h, fun env' rt' he _ => ?_⟩
        simp only [evK]
        rw [he x (by simp [Op.operands]), e1]
        simp only [extractK, e2]
      · exact h.elim
    · exact h.elim
  case call c =>
    obtain ⟨callee, args, ts⟩ := c
    cases callee with
    | value f =>
      rcases h with h | h
      · obtain ⟨res, h1, h2⟩ := pureCallK_ext h
        refine ⟨res, h1, fun env' rt' he hrt => ?_⟩
        simp only [evK]
        rw [he f (by simp [Op.operands, Call.operands]), lists env' args (fun x hx => he x (by simp [Op.operands, Call.operands, hx]))]
        exact .inl (h2 rt' hrt)
      · obtain ⟨res, h1, h2⟩ := aggCallK_ext h
        refine ⟨res, h1, fun env' rt' he hrt => ?_⟩
        simp only [evK]
        rw [he f (by simp [Op.operands, Call.operands]), lists env' args (fun x hx => he x (by simp [Op.operands, Call.operands, hx]))]
        exact .inr (h2 rt' hrt)
    | invoke r m => exact h.elim
    | builtin b =>
      obtain ⟨args⟩ := args
      obtain ⟨ts⟩ := ts
      have hmax : ∀ mx, maxK mx (args.map (evO env)) K → ∃ res, K res ∧ maxK mx (args.map (evO env)) (· = res) := fun mx h => by
        unfold maxK at *
        split at h
        · exact ⟨_, h, rfl⟩
        · exact h.elim
      cases b <;> simp only at h <;> try exact h.elim
      case len =>
        split at h
        · rename_i x t
          obtain ⟨res, h1, h2⟩ := lenK_ext h
          exact ⟨res, h1, fun env' rt' he hrt => by simp only [evK]; rw [he x (by simp [Op.operands, Call.operands])]; exact h2 rt' hrt⟩
        · exact h.elim
      case append =>
        split at h
        · rename_i s x t t'
          obtain ⟨res, h1, h2⟩ := appendK_ext h
          exact ⟨res, h1, fun env' rt' he hrt => by simp only [evK]; rw [he s (by simp [Op.operands, Call.operands]), he x (by simp [Op.operands, Call.operands])]; exact h2 rt' hrt⟩
        · exact h.elim
      case copy =>
        split at h
        · rename_i s x t t'
          obtain ⟨res, h1, h2⟩ := copyK_ext h
          exact ⟨res, h1, fun env' rt' he hrt => by simp only [evK]; rw [he s (by simp [Op.operands, Call.operands]), he x (by simp [Op.operands, Call.operands])]; exact h2 rt' hrt⟩
        · exact h.elim
      case max =>
        obtain ⟨res, h1, h2⟩ := hmax true h
        refine ⟨res, h1, fun env' rt' he _ => ?_⟩
        simp only [evK]
        have := lists env' ⟨args⟩ (fun x hx => he x (by simp [Op.operands, Call.operands]; simpa using hx))
        simp only at this
        rw [this]; exact h2
      case min =>
        obtain ⟨res, h1, h2⟩ := hmax false h
        refine ⟨res, h1, fun env' rt' he _ => ?_⟩
        simp only [evK]
        have := lists env' ⟨args⟩ (fun x hx => he x (by simp [Op.operands, Call.operands]; simpa using hx))
        simp only at this
        rw [this]; exact h2

end
end Go.Vm
