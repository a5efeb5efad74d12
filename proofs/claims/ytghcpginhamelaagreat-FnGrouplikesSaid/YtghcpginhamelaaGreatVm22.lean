import Derived.Test.YtghcpginhamelaaGreatVm16
set_option linter.unusedVariables false
set_option linter.unusedSimpArgs false
set_option linter.unusedSectionVars false
namespace Go.Vm
open Go Go.RowKit
theorem aS {b : Bool} {p : Prop} (hb : b = true) (h : p) : chk b p := by subst hb; exact h
theorem uO {k : IntKind} {m : Int} {K : Res → Prop} (h : gH k m K) : ∃ res, K res ∧ res.rd = [] ∧ gH k m (· = res) := by
 unfold gH at h
 unfold gH
 cases he : Ad4 k with
 | true => rw [he] at h; exact ⟨_, h, rfl, rfl⟩
 | false => rw [he] at h; exact ⟨_, h.2, rfl, h.1, rfl⟩
theorem sU {p : Prop} {K : Res → Prop} (h : nY p K) : ∃ res, K res ∧ res.rd = [] ∧ nY p (· = res) := by
 by_cases hp : p
 ·exact ⟨_, h.1 hp, rfl, fun _ => rfl, fun hn => absurd hp hn⟩
 ·exact ⟨_, h.2 hp, rfl, fun hq => absurd hq hp, fun _ => rfl⟩
theorem Apz {T : Tab} {t : Nat} {op : BinOp} {x y : D} {K : Res → Prop} (h : qF T t op x y K) : ∃ res, K res ∧ qF T t op x y (· = res) := by
 unfold qF at *
 split at h
 ·have h1 := aO h; clear h; obtain ⟨hk, h⟩ := h1
  cases op <;> simp only at h ⊢
  case add => obtain ⟨res, h1, _, h2⟩ := uO h; exact ⟨res, h1, aS hk h2⟩
  case sub => obtain ⟨res, h1, _, h2⟩ := uO h; exact ⟨res, h1, aS hk h2⟩
  case mul => obtain ⟨res, h1, _, h2⟩ := uO h; exact ⟨res, h1, aS hk h2⟩
  case quo => obtain ⟨res, h1, _, h2⟩ := uO h.2; exact ⟨res, h1, aS hk ⟨h.1, h2⟩⟩
  case rem => exact ⟨_, h.2, aS hk ⟨h.1, rfl⟩⟩
  case shr => exact ⟨_, h.2, aS hk ⟨h.1, rfl⟩⟩
  case and => exact ⟨_, h, aS hk rfl⟩
  case eql => obtain ⟨res, h1, _, h2⟩ := sU h; exact ⟨res, h1, aS hk h2⟩
  case neq => obtain ⟨res, h1, _, h2⟩ := sU h; exact ⟨res, h1, aS hk h2⟩
  case lss => obtain ⟨res, h1, _, h2⟩ := sU h; exact ⟨res, h1, aS hk h2⟩
  case leq => obtain ⟨res, h1, _, h2⟩ := sU h; exact ⟨res, h1, aS hk h2⟩
  case gtr => obtain ⟨res, h1, _, h2⟩ := sU h; exact ⟨res, h1, aS hk h2⟩
  case geq => obtain ⟨res, h1, _, h2⟩ := sU h; exact ⟨res, h1, aS hk h2⟩
 ·have h1 := aO h; clear h; obtain ⟨hk, h⟩ := h1
  cases op <;> simp only at h ⊢
  case eql => exact ⟨_, h, aS hk rfl⟩
  case neq => exact ⟨_, h, aS hk rfl⟩
 ·exact h.elim
theorem Ahn {op : UnOp} {x : D} {K : Res → Prop} (h : tH op x K) : ∃ res, K res ∧ tH op x (· = res) := by
 unfold tH at *
 split at h
 ·obtain ⟨res, h1, _, h2⟩ := uO h; exact ⟨res, h1, h2⟩
 ·exact ⟨_, h, rfl⟩
 ·exact h.elim
theorem Aq0 {T : Tab} {s d : Nat} {x : D} {K : Res → Prop} (h : sL T s d x K) : ∃ res, K res ∧ sL T s d x (· = res) := by
 unfold sL at *
 have h1 := aO h; clear h; obtain ⟨hk, h⟩ := h1
 split at h
 ·rename_i e1; obtain ⟨res, h1, _, h2⟩ := uO h; exact ⟨res, h1, aS hk (by first | exact h2 | (rw [e1]; exact h2))⟩
 ·exact h.elim
section
variable {T : Tab} {rt : RT} {n : Nat} {K : Res → Prop}
def iI (F : RT → (Res → Prop) → Prop) (rt : RT) (K : Res → Prop) : Prop := ∃ res, K res ∧ ∀ rt' : RT, (∀ r ∈ res.rd, rt' r = rt r) → F rt' (· = res)
theorem Anm {s : Nat} {x : D} {f : Nat} (h : pE T rt s x f K) : iI (fun rt K => pE T rt s x f K) rt K := by
 unfold pE at h
 have h1 := aO h; clear h; obtain ⟨hk, h⟩ := h1
 split at h
 ·rename_i e1
  have h1 := aO h; clear h; obtain ⟨hk2, h⟩ := h1
  split at h
  ·rename_i hR
   refine ⟨_, h, fun rt' hrt => ?_⟩
   unfold pE
   have := hrt _ List.mem_cons_self
   rw [hR] at this
   refine aS hk ?_
   try simp only [e1]
   refine aS hk2 ?_
   try simp only [this]
  ·exact h.elim
 ·rename_i e1
  have h1 := aO h; clear h; obtain ⟨hk2, h⟩ := h1
  refine ⟨_, h, fun rt' hrt => ?_⟩
  unfold pE
  refine aS hk ?_
  try simp only [e1]
  exact aS hk2 (by first | rfl | trivial)
 ·exact h.elim
theorem Ann {s : Nat} {x : D} {f : Nat} (h : uH T s x f K) : ∃ res, K res ∧ uH T s x f (· = res) := by
 unfold uH at *
 have h1 := aO h; clear h; obtain ⟨hk, h⟩ := h1
 split at h
 ·rename_i e1
  have h1 := aO h; clear h; obtain ⟨hk2, h⟩ := h1
  split at h
  ·rename_i hagg
   have h1 := aO h; clear h; obtain ⟨hk3, h⟩ := h1
   refine ⟨_, h, aS hk ?_⟩
   try simp only [e1]
   refine aS hk2 ?_
   try simp only [hagg]
   exact aS hk3 (by first | rfl | trivial)
  ·rename_i hagg
   split at h
   ·rename_i hd
    refine ⟨_, h, aS hk ?_⟩
    try simp only [e1]
    refine aS hk2 ?_
    try simp only [hagg, hd]
   ·exact h.elim
 ·exact h.elim
theorem Ajx {t : Nat} {x i : D} (h : jO T rt t x i K) : iI (fun rt K => jO T rt t x i K) rt K := by
 unfold jO at h
 have h1 := aO h; clear h; obtain ⟨hk, h⟩ := h1
 split at h
 ·rename_i e1
  have h1 := aO h; clear h; obtain ⟨hk2, h⟩ := h1
  split at h
  ·rename_i hR
   refine ⟨_, h.2, fun rt' hrt => ?_⟩
   unfold jO
   have := hrt _ List.mem_cons_self
   rw [hR] at this
   refine aS hk ?_
   try simp only [e1]
   refine aS hk2 ?_
   try simp only [this]
   exact ⟨h.1, by first | rfl | trivial⟩
  ·exact h.elim
 ·rename_i e1
  have h1 := aO h; clear h; obtain ⟨hk2, h⟩ := h1
  refine ⟨_, h.2, fun rt' hrt => ?_⟩
  unfold jO
  refine aS hk ?_
  try simp only [e1]
  exact aS hk2 ⟨h.1, by first | rfl | trivial⟩
 ·exact h.elim
theorem Ajd {t : Nat} {x : D} {lo hi mx : Option D} (h : pU T rt t x lo hi mx K) : iI (fun rt K => pU T rt t x lo hi mx K) rt K := by
 unfold pU at h
 split at h
 ·rename_i e1
  have h1 := aO h; clear h; obtain ⟨hk2, h⟩ := h1
  split at h
  ·rename_i hR
   split at h <;> first | exact h.elim | skip
   all_goals
    refine ⟨_, h.2, fun rt' hrt => ?_⟩
    unfold pU
    have := hrt _ List.mem_cons_self
    rw [hR] at this
    try simp only [e1]
    refine aS hk2 ?_
    try simp only [this]
    exact ⟨h.1, by first | rfl | trivial⟩
  ·exact h.elim
 ·rename_i e1
  have h1 := aO h; clear h; obtain ⟨hk2, h⟩ := h1
  split at h <;> first | exact h.elim | skip
  all_goals
   obtain ⟨hb, cs', hcs, h⟩ := h
   refine ⟨_, h, fun rt' hrt => ?_⟩
   unfold pU
   try simp only [e1]
   exact aS hk2 ⟨hb, cs', hcs, by first | rfl | trivial⟩
 ·exact h.elim
theorem Agw {t : Nat} {a : D} (h : eJ T rt t a K) : iI (fun rt K => eJ T rt t a K) rt K := by
 unfold eJ at h
 have h1 := aO h; clear h; obtain ⟨hk, h⟩ := h1
 split at h
 ·split at h
  ·rename_i hR
   split at h
   ·rename_i hbox
    split at h
    ·split at h
     ·rename_i hagg
      have h1 := aO h; clear h; obtain ⟨hk2, h⟩ := h1
      refine ⟨_, h, fun rt' hrt => ?_⟩
      unfold eJ
      have := hrt _ List.mem_cons_self
      rw [hR] at this
      refine aS hk ?_
      try simp only [this, hbox, hagg]
      exact aS hk2 (by first | rfl | trivial)
     ·rename_i hagg
      split at h
      ·rename_i hd
       refine ⟨_, h, fun rt' hrt => ?_⟩
       unfold eJ
       have := hrt _ List.mem_cons_self
       rw [hR] at this
       refine aS hk ?_
       try simp only [this, hbox, hagg, hd]
      ·exact h.elim
    ·exact h.elim
   ·rename_i hbox
    split at h
    ·rename_i hagg
     obtain ⟨ds, hds, h⟩ := h
     refine ⟨_, h, fun rt' hrt => ?_⟩
     unfold eJ
     have := hrt _ List.mem_cons_self
     rw [hR] at this
     refine aS hk ?_
     try simp only [this, hbox, hagg]
     exact ⟨ds, hds, by first | rfl | trivial⟩
    ·rename_i hagg
     obtain ⟨ds, hds, h⟩ := h
     refine ⟨_, h, fun rt' hrt => ?_⟩
     unfold eJ
     have := hrt _ List.mem_cons_self
     rw [hR] at this
     refine aS hk ?_
     try simp only [this, hbox, hagg]
     exact ⟨ds, hds, by first | rfl | trivial⟩
  ·exact h.elim
 ·split at h
  ·rename_i hagg
   obtain ⟨ds, h1, h2, h⟩ := h
   refine ⟨_, h, fun rt' hrt => ?_⟩
   unfold eJ
   refine aS hk ?_
   try simp only [hagg]
   exact ⟨ds, h1, h2, by first | rfl | trivial⟩
  ·rename_i hagg
   obtain ⟨ds, h1, h⟩ := h
   refine ⟨_, h, fun rt' hrt => ?_⟩
   unfold eJ
   refine aS hk ?_
   try simp only [hagg]
   exact ⟨ds, h1, by first | rfl | trivial⟩
 ·exact h.elim
theorem Apn {t : Nat} {a x : D} (h : fB T rt t a x K) : iI (fun rt K => fB T rt t a x K) rt K := by
 unfold fB at h
 have h1 := aO h; clear h; obtain ⟨hk, h⟩ := h1
 split at h
 ·split at h
  ·rename_i hR
   split at h
   ·rename_i hbox
    split at h
    ·rename_i e1
     have h1 := aO h; clear h; obtain ⟨hk2, h⟩ := h1
     refine ⟨_, h, fun rt' hrt => ?_⟩
     unfold fB
     have := hrt _ List.mem_cons_self
     rw [hR] at this
     refine aS hk ?_
     try simp only [this, hbox, e1]
     exact aS hk2 (by first | rfl | trivial)
    ·exact h.elim
   ·rename_i hbox
    have h1 := aO h; clear h; obtain ⟨hk2, h⟩ := h1
    split at h
    ·have h1 := aO h; clear h; obtain ⟨hk3, h⟩ := h1
     obtain ⟨cs', h1, h⟩ := h
     refine ⟨_, h, fun rt' hrt => ?_⟩
     unfold fB
     have := hrt _ List.mem_cons_self
     rw [hR] at this
     refine aS hk ?_
     try simp only [this, hbox]
     exact aS hk2 (aS hk3 ⟨cs', h1, by first | rfl | trivial⟩)
    ·obtain ⟨cs', h1, h⟩ := h
     refine ⟨_, h, fun rt' hrt => ?_⟩
     unfold fB
     have := hrt _ List.mem_cons_self
     rw [hR] at this
     refine aS hk ?_
     try simp only [this, hbox]
     exact aS hk2 ⟨cs', h1, by first | rfl | trivial⟩
    ·obtain ⟨cs', h1, h⟩ := h
     refine ⟨_, h, fun rt' hrt => ?_⟩
     unfold fB
     have := hrt _ List.mem_cons_self
     rw [hR] at this
     refine aS hk ?_
     try simp only [this, hbox]
     exact aS hk2 ⟨cs', h1, by first | rfl | trivial⟩
    ·have h1 := aO h; clear h; obtain ⟨hk3, h⟩ := h1
     split at h
     ·rename_i hR'
      have h1 := aO h; clear h; obtain ⟨hk4, h⟩ := h1
      obtain ⟨g1, g2, g3, cs', g4, h⟩ := h
      refine ⟨_, h, fun rt' hrt => ?_⟩
      unfold fB
      have t1 := hrt _ List.mem_cons_self
      rw [hR] at t1
      have t2 := hrt _ (List.mem_cons_of_mem _ List.mem_cons_self)
      rw [hR'] at t2
      refine aS hk ?_
      try simp only [t1, t2, hbox]
      exact aS hk2 (aS hk3 (aS hk4 ⟨g1, g2, g3, cs', g4, by first | rfl | trivial⟩))
     ·exact h.elim
    ·exact h.elim
  ·exact h.elim
 ·exact h.elim
theorem Aif {t : Nat} {op : BinOp} {x : D} (h : nZ T rt t op x K) : iI (fun rt K => nZ T rt t op x K) rt K := by
 unfold nZ at h
 have h1 := aO h; clear h; obtain ⟨hk, h⟩ := h1
 split at h
 ·rename_i e1
  split at h
  ·cases op <;> simp only at h
   all_goals
    refine ⟨_, h, fun rt' hrt => ?_⟩
    unfold nZ
    refine aS hk ?_
    simp only [e1]
  ·split at h
   ·rename_i hR
    obtain ⟨hm, h⟩ := h
    cases op <;> simp only at h
    all_goals
     refine ⟨_, h, fun rt' hrt => ?_⟩
     have := hrt _ List.mem_cons_self
     rw [hR] at this
     unfold nZ
     refine aS hk ?_
     simp only [e1, this]
     exact ⟨hm, trivial⟩
   ·exact h.elim
  ·exact h.elim
 ·exact h.elim
theorem Aos {t : Nat} {x : D} (h : mK T rt t x K) : iI (fun rt K => mK T rt t x K) rt K := by
 unfold mK at h
 have h1 := aO h; clear h; obtain ⟨hk, h⟩ := h1
 split at h
 ·rename_i e1
  split at h
  ·rename_i hR
   refine ⟨_, h, fun rt' hrt => ?_⟩
   unfold mK
   have := hrt _ List.mem_cons_self
   rw [hR] at this
   refine aS hk ?_
   try simp only [e1, this]
  ·exact h.elim
 ·rename_i e1
  have h1 := aO h; clear h; obtain ⟨hk2, h⟩ := h1
  refine ⟨_, h, fun rt' hrt => ?_⟩
  unfold mK
  refine aS hk ?_
  try simp only [e1]
  exact aS hk2 (by first | rfl | trivial)
 ·rename_i e1
  refine ⟨_, h, fun rt' hrt => ?_⟩
  unfold mK
  refine aS hk ?_
  try simp only [e1]
 ·rename_i e1
  refine ⟨_, h, fun rt' hrt => ?_⟩
  unfold mK
  refine aS hk ?_
  try simp only [e1]
 ·exact h.elim
theorem zR {e : Nat} {r0 : Option Nat} {x : D} {K : Nat → List D → Option Nat → List Nat → Prop} (h : jQ T rt e r0 x K) :
  ∃ m news c rd, K m news c rd ∧ ∀ rt' : RT, (∀ r ∈ rd, rt' r = rt r) → ∀ K' : Nat → List D → Option Nat → List Nat → Prop, K' m news c rd → jQ T rt' e r0 x K' := by
 unfold jQ at h
 split at h
 ·exact ⟨_, _, _, _, h, fun rt' _ K' h' => by unfold jQ; exact h'⟩
 ·have h1 := aO h; clear h; obtain ⟨hk, h⟩ := h1
  exact ⟨_, _, _, _, h.2, fun rt' _ K' h' => by unfold jQ; exact aS hk ⟨h.1, h'⟩⟩
 ·have h1 := aO h; clear h; obtain ⟨hk, h⟩ := h1
  split at h
  ·rename_i hR
   have h1 := aO h; clear h; obtain ⟨hk2, h⟩ := h1
   split at h
   ·rename_i hp
    obtain ⟨c, h1, h2, c', h3, h4, h⟩ := h
    refine ⟨_, _, _, _, h, fun rt' hrt K' h' => ?_⟩
    have := hrt _ List.mem_cons_self
    rw [hR] at this
    unfold jQ
    refine aS hk ?_
    try simp only [this]
    refine aS hk2 ?_
    try simp only [hp]
    exact ⟨c, h1, h2, c', h3, h4, h'⟩
   ·rename_i hp
    split at h
    ·obtain ⟨h1, h2, h⟩ := h
     refine ⟨_, _, _, _, h, fun rt' hrt K' h' => ?_⟩
     have := hrt _ List.mem_cons_self
     rw [hR] at this
     unfold jQ
     refine aS hk ?_
     try simp only [this]
     refine aS hk2 ?_
     try simp only [hp]
     exact ⟨h1, h2, h'⟩
    ·exact h.elim
  ·exact h.elim
 ·exact h.elim
theorem Ala {t t' : Nat} {s x : D} (h : nP T rt n t t' s x K) : iI (fun rt K => nP T rt n t t' s x K) rt K := by
 unfold nP at h
 have h1 := aO h; clear h; obtain ⟨hk, h⟩ := h1
 split at h
 ·rename_i e1
  have h1 := aO h; clear h; obtain ⟨hk2, h⟩ := h1
  split at h
  ·obtain ⟨m, news, c, rd, ⟨h1, h2⟩, h3⟩ := zR h
   rw [lQ] at h2
   refine ⟨_, h2, fun rt' hrt => ?_⟩
   unfold nP
   refine aS hk ?_
   try simp only [e1]
   refine aS hk2 ?_
   exact h3 rt' hrt _ ⟨h1, by rw [lQ]⟩
  ·have h1 := aO h; clear h; obtain ⟨hk3, hcell, h⟩ := h1
   obtain ⟨m, news, c, rd, hc, h3⟩ := zR h
   have h1 := aO hc; clear hc; obtain ⟨hk4, h1, cs', h2, hK⟩ := h1
   refine ⟨_, hK, fun rt' hrt => ?_⟩
   unfold nP
   refine aS hk ?_
   try simp only [e1]
   refine aS hk2 (aS hk3 ⟨hcell, ?_⟩)
   exact h3 rt' hrt _ (aS hk4 ⟨h1, cs', h2, rfl⟩)
  ·have h1 := aO h; clear h; obtain ⟨hk3, h⟩ := h1
   split at h
   ·rename_i hR
    have h1 := aO h; clear h; obtain ⟨hk4, hm, h⟩ := h1
    obtain ⟨m, news, c, rd, ⟨h1, cs', h2, h3⟩, h4⟩ := zR h
    refine ⟨_, h3, fun rt' hrt => ?_⟩
    have := hrt _ List.mem_cons_self
    rw [hR] at this
    unfold nP
    refine aS hk ?_
    try simp only [e1]
    refine aS hk2 (aS hk3 ?_)
    try simp only [this]
    exact aS hk4 ⟨hm, h4 rt' (fun r hr => hrt r (by simp [hr])) _ ⟨h1, cs', h2, rfl⟩⟩
   ·exact h.elim
  ·exact h.elim
 ·exact h.elim
theorem Apo {t t' : Nat} {s : D} {k : Int} (h : qI T rt n t t' s k K) : iI (fun rt K => qI T rt n t t' s k K) rt K := by
 unfold qI at h
 have h1 := aO h; clear h; obtain ⟨hk, h⟩ := h1
 split at h
 ·rename_i e1 e2
  have h1 := aO h; clear h; obtain ⟨hk2, h⟩ := h1
  split at h
  ·have h1 := aO h; clear h; obtain ⟨hk3, h⟩ := h1
   split at h
   ·rename_i hR
    have h1 := aO h; clear h; obtain ⟨hk4, h1, cs', h2, h3⟩ := h1
    refine ⟨_, h3, fun rt' hrt => ?_⟩
    have := hrt _ List.mem_cons_self
    rw [hR] at this
    unfold qI
    refine aS hk ?_
    try simp only [e1, e2]
    refine aS hk2 (aS hk3 ?_)
    try simp only [this]
    exact aS hk4 ⟨h1, cs', h2, rfl⟩
   ·exact h.elim
  ·exact h.elim
 ·exact h.elim
theorem Ang {t t' : Nat} {s x : D} (h : rD T rt t t' s x K) : iI (fun rt K => rD T rt t t' s x K) rt K := by
 unfold rD at h
 have h1 := aO h; clear h; obtain ⟨hk, h⟩ := h1
 split at h
 ·rename_i e1
  have h1 := aO h; clear h; obtain ⟨hk2, h⟩ := h1
  split at h
  ·rename_i hR
   have h1 := aO h; clear h; obtain ⟨hk3, h⟩ := h1
   obtain ⟨m, news, c, rd, h1, h4⟩ := zR h
   have h2 := aO h1; clear h1; obtain ⟨hc, b, k1, k2, k3, cs', k4, k5⟩ := h2
   refine ⟨_, k5, fun rt' hrt => ?_⟩
   have := hrt _ List.mem_cons_self
   rw [hR] at this
   unfold rD
   refine aS hk ?_
   try simp only [e1]
   refine aS hk2 ?_
   try simp only [this]
   exact aS hk3 (h4 rt' (fun r hr => hrt r (by simp [hr])) _ (aS hc ⟨b, k1, k2, k3, cs', k4, rfl⟩))
  ·exact h.elim
 ·exact h.elim
theorem tO {f : RT → D → (D → List Nat → Prop) → Prop} {rt : RT}
  (hf : ∀ d K, f rt d K → ∃ d' rd, K d' rd ∧ ∀ rt' : RT, (∀ r ∈ rd, rt' r = rt r) → ∀ K' : D → List Nat → Prop, K' d' rd → f rt' d K') : ∀ (ds : List D) (K : List D → List Nat → Prop), jL (f rt) ds K →
  ∃ ds' rd, K ds' rd ∧ ∀ rt' : RT, (∀ r ∈ rd, rt' r = rt r) → ∀ K' : List D → List Nat → Prop, K' ds' rd → jL (f rt') ds K' := by
 intro ds
 induction ds with
 | nil => intro K h; exact ⟨_, _, h, fun rt' _ K' h' => h'⟩
 | cons d ds ih =>
  intro K h
  simp only [jL] at h
  obtain ⟨d', rd, h1, h2⟩ := hf d _ h
  obtain ⟨ds', rd', h3, h4⟩ := ih _ h1
  refine ⟨_, _, h3, fun rt' hrt K' h' => ?_⟩
  simp only [jL]
  exact h2 rt' (fun r hr => hrt r (by simp [hr])) _ (h4 rt' (fun r hr => hrt r (by simp [hr])) _ h')
theorem Ae1 {rt : RT} : ∀ (k : Nat) (d : D) (K : D → List Nat → Prop), eL rt k d K →
  ∃ d' rd, K d' rd ∧ ∀ rt' : RT, (∀ r ∈ rd, rt' r = rt r) → ∀ K' : D → List Nat → Prop, K' d' rd → eL rt' k d K' := by
 intro k
 induction k with
 | zero => intro d K h; exact h.elim
 | succ k ih =>
  intro d K h
  cases d with
  | undef => exact h.elim
  | kb b => exact ⟨_, _, h, fun rt' _ K' h' => h'⟩
  | lit v => exact ⟨_, _, h, fun rt' _ K' h' => h'⟩
  | list o sz cs => exact ⟨_, _, h, fun rt' _ K' h' => h'⟩
  | cptr cs off => exact ⟨_, _, h, fun rt' _ K' h' => h'⟩
  | full sz cs => exact h.elim
  | agg ds =>
   obtain ⟨ds', rd, h1, h2⟩ := tO (f := fun rt => eL rt k) (fun d K h => ih d K h) ds _ h
   exact ⟨_, _, h1, fun rt' hrt K' h' => h2 rt' hrt _ h'⟩
  | tup ds => exact h.elim
  | fn f fs cs =>
   obtain ⟨fs', rd, h1, h2⟩ := tO (f := fun rt => eL rt k) (fun d K h => ih d K h) fs _ h
   obtain ⟨cs', rd', h3, h4⟩ := tO (f := fun rt => eL rt k) (fun d K h => ih d K h) cs _ h1
   exact ⟨_, _, h3, fun rt' hrt K' h' => h2 rt' (fun r hr => hrt r (by simp [hr])) _ (h4 rt' (fun r hr => hrt r (by simp [hr])) _ h')⟩
  | ref r p sz off m =>
   simp only [eL] at h
   split at h
   ·rename_i R hR
    obtain ⟨h1, c, h2, h3, c', h4, h5⟩ := h
    refine ⟨_, _, h5, fun rt' hrt K' h' => ?_⟩
    have := hrt _ List.mem_cons_self
    rw [hR] at this
    simp only [eL, this]
    exact ⟨h1, c, h2, h3, c', h4, h'⟩
   ·exact h.elim
  | ptr r p off =>
   simp only [eL] at h
   split at h
   ·rename_i R hR
    split at h
    ·rename_i hbox
     obtain ⟨hp, h⟩ := h
     obtain ⟨ds', rd, h1, h2⟩ := tO (f := fun rt => eL rt k) (fun d K h => ih d K h) R.cs _ h
     refine ⟨_, _, h1, fun rt' hrt K' h' => ?_⟩
     have := hrt r (by simp)
     rw [hR] at this
     simp only [eL, this, if_pos hbox]
     exact ⟨hp, h2 rt' (fun r hr => hrt r (by simp [hr])) _ h'⟩
    ·rename_i hbox
     obtain ⟨c, h1, h⟩ := h
     refine ⟨_, _, h, fun rt' hrt K' h' => ?_⟩
     have := hrt r (by simp)
     rw [hR] at this
     simp only [eL, this, if_neg hbox]
     exact ⟨c, h1, h'⟩
   ·exact h.elim
theorem Aps {P : Program} {f : D} {args : List D} (h : mV P rt n f args K) : iI (fun rt K => mV P rt n f args K) rt K := by
 unfold mV at h
 split at h
 ·obtain ⟨ds, rd, ⟨rs, h1, h2⟩, h3⟩ := tO (f := fun rt => eL rt 6) (fun d K h => Ae1 6 d K h) _ _ h
  refine ⟨_, h2, fun rt' hrt => ?_⟩
  unfold mV
  exact h3 rt' hrt _ ⟨rs, h1, rfl⟩
 ·exact h.elim
theorem Aog {P : Program} {f : D} {args : List D} (h : lI P rt f args K) : iI (fun rt K => lI P rt f args K) rt K := by
 unfold lI at h
 split at h
 ·split at h
  ·split at h
   ·rename_i hR
    refine ⟨_, h.2, fun rt' hrt => ?_⟩
    have := hrt _ List.mem_cons_self
    rw [hR] at this
    unfold lI
    simp only [this]
    exact ⟨h.1, trivial⟩
   ·exact h.elim
  ·obtain ⟨rs, h1, h2⟩ := h
   refine ⟨_, h2, fun rt' hrt => ?_⟩
   unfold lI
   exact ⟨rs, h1, rfl⟩
  ·exact h.elim
 ·exact h.elim
theorem Asd {t len : Nat} {parts : List (Nat × D)} (h : lK T rt n t len parts K) : iI (fun rt K => lK T rt n t len parts K) rt K := by
 unfold lK at h
 have h1 := aO h; clear h; obtain ⟨hk, h⟩ := h1
 split at h
 ·rename_i e1
  have h1 := aO h; clear h; obtain ⟨hk2, h⟩ := h1
  split at h
  ·rename_i e2
   have h1 := aO h; clear h; obtain ⟨hk3, h⟩ := h1
   split at h
   ·rename_i hR
    have h1 := aO h; clear h; obtain ⟨hk4, h⟩ := h1
    refine ⟨_, h.2, fun rt' hrt => ?_⟩
    have := hrt _ List.mem_cons_self
    rw [hR] at this
    unfold lK
    refine aS hk ?_
    try simp only [e1]
    refine aS hk2 ?_
    try simp only [e2]
    refine aS hk3 ?_
    try simp only [this]
    exact aS hk4 ⟨h.1, by first | rfl | trivial⟩
   ·exact h.elim
  ·rename_i e2
   split at h
   ·rename_i e3
    have h1 := aO h; clear h; obtain ⟨hk3, h⟩ := h1
    split at h
    ·rename_i hR
     have h1 := aO h; clear h; obtain ⟨hk4, h⟩ := h1
     refine ⟨_, h.2, fun rt' hrt => ?_⟩
     have := hrt _ List.mem_cons_self
     rw [hR] at this
     unfold lK
     refine aS hk ?_
     try simp only [e1]
     refine aS hk2 ?_
     try simp only [e2, e3]
     refine aS hk3 ?_
     try simp only [this]
     exact aS hk4 ⟨h.1, by first | rfl | trivial⟩
    ·exact h.elim
   ·rename_i e4
    split at h
    ·rename_i e5
     have h1 := aO h; clear h; obtain ⟨hk3, h⟩ := h1
     split at h
     ·rename_i hR1 hR2
      have h1 := aO h; clear h; obtain ⟨hk4, h⟩ := h1
      refine ⟨_, h.2.2, fun rt' hrt => ?_⟩
      have t1 := hrt _ List.mem_cons_self
      have t2 := hrt _ (List.mem_cons_of_mem _ List.mem_cons_self)
      rw [hR1] at t1
      rw [hR2] at t2
      unfold lK
      refine aS hk ?_
      try simp only [e1]
      refine aS hk2 ?_
      try simp only [e2, e4, e5]
      refine aS hk3 ?_
      try simp only [t1, t2]
      exact aS hk4 ⟨h.1, h.2.1, by first | rfl | trivial⟩
     ·exact h.elim
    ·rename_i e5
     split at h
     ·rename_i e3
      have h1 := aO h; clear h; obtain ⟨hk4, h⟩ := h1
      rw [lQ, qS] at h
      refine ⟨_, h, fun rt' hrt => ?_⟩
      unfold lK
      refine aS hk ?_
      try simp only [e1]
      refine aS hk2 ?_
      try simp only [e2, e3, e4, e5]
      exact aS hk4 (by rw [lQ, qS])
     ·exact h.elim
 ·exact h.elim
theorem Ah3 {x : D} (h : pM rt x K) : iI (fun rt K => pM rt x K) rt K := by
 unfold pM at h
 split at h
 ·split at h
  ·rename_i hR
   refine ⟨_, h, fun rt' hrt => ?_⟩
   have := hrt _ List.mem_cons_self
   rw [hR] at this
   unfold pM
   try simp only [this]
  ·exact h.elim
 ·exact ⟨_, h, fun rt' _ => by unfold pM; rfl⟩
 ·exact h.elim
theorem tI {P : Program} {env : List D} {op : Op} (h : bN P T env rt n op K) : ∃ res, K res ∧ ∀ (env' : List D) (rt' : RT), (∀ x ∈ op.operands, aM env' x = aM env x) → (∀ r ∈ res.rd, rt' r = rt r) → bN P T env' rt' n op (· = res) := by
 have pairs : ∀ (env' : List D) (ps : Array (Nat × Operand)), (∀ x ∈ (ps.toList.map (·.2)).toArray, aM env' x = aM env x) → ps.toList.map (fun (i, x) => (i, aM env' x)) = ps.toList.map (fun (i, x) => (i, aM env x)) := fun env' ps hp =>
  List.map_congr_left fun p hm => by
   obtain ⟨i, x⟩ := p
   simp only [hp x (by simp; exact ⟨i, by simpa using hm⟩)]
 have lists : ∀ (env' : List D) (xs : Array Operand), (∀ x ∈ xs, aM env' x = aM env x) → xs.toList.map (aM env') = xs.toList.map (aM env) := fun env' xs hx => List.map_congr_left fun x hm => hx x (by simpa using hm)
 cases op <;> simp only [bN] at h <;> try exact h.elim
 case move x => exact ⟨_, h, fun env' rt' he _ => by simp only [bN]; rw [he x (by simp [Op.operands])]⟩
 case assign x => exact ⟨_, h, fun env' rt' he _ => by simp only [bN]; rw [he x (by simp [Op.operands])]⟩
 case pick c x y =>
  split at h
  ·rename_i e1
   exact ⟨_, h, fun env' rt' he _ => by simp only [bN]; rw [he c (by simp [Op.operands]), e1, he x (by simp [Op.operands])]⟩
  ·rename_i e1
   exact ⟨_, h, fun env' rt' he _ => by simp only [bN]; rw [he c (by simp [Op.operands]), e1, he y (by simp [Op.operands])]⟩
  ·exact h.elim
 case alloc e =>
  obtain ⟨hk, h⟩ := aO h
  exact ⟨_, h, fun env' rt' _ _ => by simp only [bN]; exact aS hk (by first | rfl | trivial)⟩
 case box e x =>
  split at h
  ·rename_i e1
   exact ⟨_, h, fun env' rt' he _ => by simp only [bN]; rw [he x (by simp [Op.operands]), e1]⟩
  ·exact h.elim
 case build t parts =>
  unfold uR at h
  have h1 := aO h; clear h; obtain ⟨hk, h⟩ := h1
  split at h
  ·rename_i e1
   split at h
   ·rename_i e2
    have h1 := aO h; clear h; obtain ⟨hk2, h⟩ := h1
    refine ⟨_, h, fun env' rt' he _ => ?_⟩
    simp only [bN]
    rw [pairs env' parts (fun x hx => he x (by simpa [Op.operands] using hx))]
    unfold uR
    refine aS hk ?_
    try simp only [e1, e2]
    exact aS hk2 (by first | rfl | trivial)
   ·exact h.elim
  ·exact h.elim
 case buildSlice t len parts =>
  simp only [bN, xO] at h
  obtain ⟨res, h1, h2⟩ := Asd h
  refine ⟨res, h1, fun env' rt' he hrt => ?_⟩
  simp only [bN, xO]
  rw [pairs env' parts (fun x hx => he x (by simpa [Op.operands] using hx))]
  exact h2 rt' hrt
 case load t x =>
  obtain ⟨res, h1, h2⟩ := Agw h
  exact ⟨res, h1, fun env' rt' he hrt => by simp only [bN]; rw [he x (by simp [Op.operands])]; exact h2 rt' hrt⟩
 case store t x y =>
  obtain ⟨res, h1, h2⟩ := Apn h
  exact ⟨res, h1, fun env' rt' he hrt => by simp only [bN]; rw [he x (by simp [Op.operands]), he y (by simp [Op.operands])]; exact h2 rt' hrt⟩
 case nilCheck x =>
  obtain ⟨res, h1, h2⟩ := Ah3 h
  exact ⟨res, h1, fun env' rt' he hrt => by simp only [bN]; rw [he x (by simp [Op.operands])]; exact h2 rt' hrt⟩
 case binOp op t x y t' =>
  split at h
  ·rename_i hye
   obtain ⟨res, h1, h2⟩ := Aif h
   exact ⟨res, h1, fun env' rt' he hrt => by simp only [bN]; rw [he x (by simp [Op.operands]), he y (by simp [Op.operands]), hye]; exact h2 rt' hrt⟩
  ·rename_i y' hye
   obtain ⟨res, h1, h2⟩ := Apz h
   exact ⟨res, h1, fun env' rt' he _ => by
    simp only [bN]
    rw [he x (by simp [Op.operands]), he y (by simp [Op.operands])]
    split
    ·rename_i e; exact absurd e hye
    ·exact h2⟩
 case unOp op t x =>
  obtain ⟨res, h1, h2⟩ := Ahn h
  exact ⟨res, h1, fun env' rt' he _ => by simp only [bN]; rw [he x (by simp [Op.operands])]; exact h2⟩
 case convert s d x =>
  obtain ⟨res, h1, h2⟩ := Aq0 h
  exact ⟨res, h1, fun env' rt' he _ => by simp only [bN]; rw [he x (by simp [Op.operands])]; exact h2⟩
 case makeFunc fn first captured =>
  refine ⟨_, h, fun env' rt' he _ => ?_⟩
  simp only [bN]
  rw [lists env' first (fun x hx => he x (by simp [Op.operands, hx])), lists env' captured (fun x hx => he x (by simp [Op.operands, hx]))]
 case makeSlice t l c =>
  unfold sY at h
  have h1 := aO h; clear h; obtain ⟨hk, h⟩ := h1
  split at h
  ·rename_i e1 e2 e3
   have h1 := aO h; clear h; obtain ⟨hk2, h⟩ := h1
   obtain ⟨h0, k0, hk0, h⟩ := h
   rw [lQ] at h
   obtain ⟨cs0, hcs0, h⟩ := h
   refine ⟨_, h, fun env' rt' he _ => ?_⟩
   simp only [bN]
   rw [he l (by simp [Op.operands]), he c (by simp [Op.operands])]
   unfold sY
   refine aS hk ?_
   try simp only [e1, e2, e3]
   exact aS hk2 ⟨h0, k0, hk0, by rw [lQ]; exact ⟨cs0, hcs0, rfl⟩⟩
  ·exact h.elim
 case slice t x lo hi mx =>
  obtain ⟨res, h1, h2⟩ := Ajd h
  refine ⟨res, h1, fun env' rt' he hrt => ?_⟩
  simp only [bN]
  have hl : lo.map (aM env') = lo.map (aM env) := by cases lo with
   | none => rfl
   | some y => simp only [Option.map_some]; rw [he y (by simp [Op.operands])]
  have hh : hi.map (aM env') = hi.map (aM env) := by cases hi with
   | none => rfl
   | some y => simp only [Option.map_some]; rw [he y (by simp [Op.operands])]
  have hm : mx.map (aM env') = mx.map (aM env) := by cases mx with
   | none => rfl
   | some y => simp only [Option.map_some]; rw [he y (by simp [Op.operands])]
  rw [he x (by simp [Op.operands]), hl, hh, hm]
  exact h2 rt' hrt
 case fieldAddr s x f =>
  obtain ⟨res, h1, h2⟩ := Anm h
  exact ⟨res, h1, fun env' rt' he hrt => by simp only [bN]; rw [he x (by simp [Op.operands])]; exact h2 rt' hrt⟩
 case field s x f =>
  obtain ⟨res, h1, h2⟩ := Ann h
  exact ⟨res, h1, fun env' rt' he _ => by simp only [bN]; rw [he x (by simp [Op.operands])]; exact h2⟩
 case indexAddr t x i =>
  obtain ⟨res, h1, h2⟩ := Ajx h
  exact ⟨res, h1, fun env' rt' he hrt => by simp only [bN]; rw [he x (by simp [Op.operands]), he i (by simp [Op.operands])]; exact h2 rt' hrt⟩
 case extract x i =>
  unfold vA at h
  split at h
  ·rename_i e1
   split at h
   ·rename_i e2
    refine ⟨_, h, fun env' rt' he _ => ?_⟩
    simp only [bN]
    rw [he x (by simp [Op.operands]), e1]
    simp only [vA, e2]
   ·exact h.elim
  ·exact h.elim
 case call c =>
  obtain ⟨callee, args, ts⟩ := c
  cases callee with
  | value f =>
   rcases h with h | h
   ·obtain ⟨res, h1, h2⟩ := Aps h
    refine ⟨res, h1, fun env' rt' he hrt => ?_⟩
    simp only [bN]
    rw [he f (by simp [Op.operands, Call.operands]), lists env' args (fun x hx => he x (by simp [Op.operands, Call.operands, hx]))]
    exact .inl (h2 rt' hrt)
   ·obtain ⟨res, h1, h2⟩ := Aog h
    refine ⟨res, h1, fun env' rt' he hrt => ?_⟩
    simp only [bN]
    rw [he f (by simp [Op.operands, Call.operands]), lists env' args (fun x hx => he x (by simp [Op.operands, Call.operands, hx]))]
    exact .inr (h2 rt' hrt)
  | invoke r m => exact h.elim
  | builtin b =>
   obtain ⟨args⟩ := args
   obtain ⟨ts⟩ := ts
   have hmax : ∀ mx, rN mx (args.map (aM env)) K → ∃ res, K res ∧ rN mx (args.map (aM env)) (· = res) := fun mx h => by
    unfold rN at *
    split at h
    ·exact ⟨_, h, rfl⟩
    ·exact h.elim
   cases b <;> simp only at h <;> try exact h.elim
   case len =>
    split at h
    ·rename_i x t
     obtain ⟨res, h1, h2⟩ := Aos h
     exact ⟨res, h1, fun env' rt' he hrt => by simp only [bN]; rw [he x (by simp [Op.operands, Call.operands])]; exact h2 rt' hrt⟩
    ·exact h.elim
   case append =>
    split at h
    ·rename_i s x t t'
     split at h
     ·rename_i k hxe
      obtain ⟨res, h1, h2⟩ := Apo h
      exact ⟨res, h1, fun env' rt' he hrt => by simp only [bN]; rw [he s (by simp [Op.operands, Call.operands]), he x (by simp [Op.operands, Call.operands]), hxe]; exact h2 rt' hrt⟩
     ·rename_i hxe
      obtain ⟨res, h1, h2⟩ := Ala h
      exact ⟨res, h1, fun env' rt' he hrt => by
       simp only [bN]; rw [he s (by simp [Op.operands, Call.operands]), he x (by simp [Op.operands, Call.operands])]
       split
       ·rename_i k hk; exact absurd hk (hxe k)
       ·exact h2 rt' hrt⟩
    ·exact h.elim
   case copy =>
    split at h
    ·rename_i s x t t'
     obtain ⟨res, h1, h2⟩ := Ang h
     exact ⟨res, h1, fun env' rt' he hrt => by simp only [bN]; rw [he s (by simp [Op.operands, Call.operands]), he x (by simp [Op.operands, Call.operands])]; exact h2 rt' hrt⟩
    ·exact h.elim
   case max =>
    obtain ⟨res, h1, h2⟩ := hmax true h
    refine ⟨res, h1, fun env' rt' he _ => ?_⟩
    simp only [bN]
    have := lists env' ⟨args⟩ (fun x hx => he x (by simp [Op.operands, Call.operands]; simpa using hx))
    simp only at this
    rw [this]; exact h2
   case min =>
    obtain ⟨res, h1, h2⟩ := hmax false h
    refine ⟨res, h1, fun env' rt' he _ => ?_⟩
    simp only [bN]
    have := lists env' ⟨args⟩ (fun x hx => he x (by simp [Op.operands, Call.operands]; simpa using hx))
    simp only at this
    rw [this]; exact h2
end
end Go.Vm
namespace Go.Vm
open Go Go.RowKit
structure St where
 env : List D
 rt : List (Option Root)
 deriving Inhabited
def aQ (l : List (Option Root)) : RT := fun r => l[r]?
def dK (l : List (Option Root)) : List (Nat × Option Root) → List (Option Root)
 | [] => l
 | (r, x) :: ws => dK (l.set r x) ws
def setSlot (env : List D) (dst : Option Nat) (d : D) : List D :=
 match dst with
 | some i => env.set i d
 | none => env
def bY (st : St) (dst : Option Nat) (d : D) (res : Res) : St := ⟨setSlot st.env dst d, dK st.rt res.wr ++ res.new⟩
def oX : List (Option Root) → (List (Option Root) → Prop) → Prop
 | [], k => k []
 | none :: rs, k => oX rs fun rs => k (none :: rs)
 | some ⟨true, sz, cs⟩ :: rs, k => tU cs fun cs => oX rs fun rs => k (some ⟨true, sz, cs⟩ :: rs)
 | some ⟨false, sz, cs⟩ :: rs, k => oX rs fun rs => k (some ⟨false, sz, cs⟩ :: rs)
def cJ (st : St) (k : St → Prop) : Prop := tU st.env fun env => oX st.rt fun rt => k ⟨env, rt⟩
theorem yW : ∀ (rs : List (Option Root)) (k : List (Option Root) → Prop), oX rs k = k rs
 | [], _ => rfl
 | none :: rs, k => by simp only [oX, yW rs]
 | some ⟨true, sz, cs⟩ :: rs, k => by simp only [oX, qS, yW rs]
 | some ⟨false, sz, cs⟩ :: rs, k => by simp only [oX, yW rs]
theorem gT (st : St) (k : St → Prop) : cJ st k = k st := by simp only [cJ, qS, yW]
def iS (d : D) (k : D → Prop) : Prop :=
 match d with
 | .lit (.bool b) => (b = true → k (.kb true)) ∧ (b = false → k (.kb false))
 | d => k d
def tL (l : List (Option Root)) (res : Res) : Bool := res.wr.all fun x => Nat.blt x.1 l.length
def dD (P : Program) (T : Tab) (o : Oper) (st : St) (K : D → Res → Prop) : Prop :=
 uF st.rt.length fun n => bN P T st.env (aQ st.rt) n o.op fun res => chk (tL st.rt res) (iS res.val fun d => K d res)
def fX (ops : List Oper) (o : Oper) (env : List D) : Option Bool :=
 match o.guard with
 | none => some true
 | some (j, want) => match ops[j]? with
  | some oj => match oj.dst with
   | some t => match env.getD t .undef with
    | .kb b => some (b == want)
    | .lit (.tuple _) => some false
    | _ => none
   | none => none
  | none => none
def Fits (w0 : Base) (st : St) (a : Act) (w : World) : Prop :=
 ∃ own, a.defers = [] ∧ st.env.length = a.tmps.size ∧ Sim w0 (fun i => st.env.getD i .undef) (aQ st.rt) (fun i => a.tmps.getD i Go.undef) w own
def dJ (P : Program) (kp : Nat) (c : Code) (Q : Exit → St → Prop) (st : St) : Prop :=
 ∀ (w0 : Base) (a : Act) (w : World), w0.keep = kp → Fits w0 st a w → c.wp P (fun e a' w' => ∃ st', Fits w0 st' a' w' ∧ Q e st') a w
def kV (T : Tab) (env : List D) (rt : RT) : List ResultVar → (List D → Prop) → Prop
 | [], K => K []
 | .tmp t :: r, K => kV T env rt r fun ds => K (env.getD t .undef :: ds)
 | .cell a t :: r, K => eJ T rt t (env.getD a .undef) fun res => kV T env rt r fun ds => K (res.val :: ds)
def iK : List D → D
 | [d] => d
 | ds => .tup ds
def vN (P : Program) (T : Tab) (f : D) (args : List D) (st : St) (K : D → List (Option Root) → Prop) : Prop :=
 match f with
 | .fn (.func g) fs cs => ∃ fn c, P.funcs[g]? = some fn ∧ fn.body = some c ∧ (fn.name == "runtime.NumGoroutine") = false ∧
   dJ P st.rt.length c (fun e st' => (e = .ret ∨ e = .normal) ∧ kV T st'.env (aQ st'.rt) fn.results.toList fun ds => iS (iK ds) fun d => K d st'.rt)
    ⟨(fs ++ args ++ cs) ++ List.replicate (fn.ntmps - (fs ++ args ++ cs).length) .undef, st.rt⟩
 | _ => False
def tW (P : Program) (T : Tab) (o : Oper) (st : St) (K : D → List (Option Root) → Prop) (other : Prop) : Prop :=
 match o.op with
 | .call { callee := .value f, args, .. } => other ∨ vN P T (aM st.env f) (args.toList.map (aM st.env)) st K
 | _ => other
def fC (r : Nat) (d : D) : D := match shB r d with
 | true => d
 | false => .undef
def Adg (r : Nat) (rt : List (Option Root)) : Bool := rt.all fun x => match x with
 | some ⟨true, _, cs⟩ => cs.all (shB r)
 | _ => true
def wC (T : Tab) (kp : Nat) (o : Oper) (st : St) (t : Nat) (a x : D) (K : St → Prop) : Prop :=
 match a with
 | .ptr r [] off => (match aQ st.rt r with
  | some (some R) => (match x with
   | .ref r' [] sz' 0 m' => (match aQ st.rt r' with
    | some (some R') => chk (!R.box && (Nat.ble kp r && (Nat.beq (T.get t).size 1 && (!Nat.beq r r' && (!Nat.beq sz' 0 && (!R'.box && Adg r st.rt))))))
      (m' * sz' = R'.cs.length ∧ off < R.cs.length ∧ ∃ cs', R.cs.set off (.list true sz' R'.cs) = cs' ∧
       K ⟨setSlot (st.env.map (fC r)) o.dst .undef, (st.rt.set r' none).set r (some { R with cs := cs' })⟩)
    | _ => False)
   | _ => False)
  | _ => False)
 | _ => False
def K9 (T : Tab) (t : Nat) : Bool := match (T.get t).ty with
 | .slice _ => true
 | _ => false
def cM (P : Program) (g kp : Nat) (args : List D) (rt : List (Option Root)) (K : D → List (Option Root) → Prop) : Prop :=
 ∃ fn c, P.funcs[g]? = some fn ∧ fn.body = some c ∧ (fn.name == "runtime.NumGoroutine") = false ∧
  ∀ (w0 : Base) (env : Nat → D) (tm : Nat → Value) (w : World) (own : Nat → Option Lab) (vals : Array Value), Sim w0 env (aQ rt) tm w own → (∀ i, BelowD kp (env i)) → (∀ d v, w0.susp d v → BelowD kp d) → (∀ b, w0.hid b → (w0.hl b).1 < kp) → vals.size = args.length →
   (∀ (i : Nat) d v, args[i]? = some d → vals[i]? = some v → Mt w (okb w own) own (aQ rt) d v) →
   c.wp P (fun e a' w' => (e = .ret ∨ e = .normal) ∧ a'.defers = [] ∧ ∃ v d rt' own', (results fn a'.tmps).run P w' = .ok v w' ∧ K d rt' ∧ Sim w0 env (aQ rt') tm w' own' ∧ Mt w' (okb w' own') own' (aQ rt') d v)
    { tmps := vals ++ Array.replicate (fn.ntmps - vals.size) Go.undef, defers := [] } w
def jC (P : Program) (f : D) (args : List D) (rt : List (Option Root)) (K : D → List (Option Root) → Prop) : Prop :=
 match f with
 | .fn (.func g) fs cs => cM P g rt.length (fs ++ args ++ cs) rt K
 | _ => False
def uX (P : Program) (T : Tab) (kp : Nat) (o : Oper) (st : St) (K : St → Prop) (Kb : D → List (Option Root) → Prop) (other : Prop) : Prop :=
 match o.op with
 | .store t x y => (match K9 T t with
  | true => other ∨ wC T kp o st t (aM st.env x) (aM st.env y) K
  | false => other)
 | .call { callee := .value f, args, .. } => other ∨ jC P (aM st.env f) (args.toList.map (aM st.env)) st.rt Kb
 | _ => other
def iD (P : Program) (T : Tab) (kp : Nat) (ops : List Oper) : List Oper → St → (St → Prop) → Prop
 | [], st, K => K st
 | o :: rest, st, K => match fX ops o st.env with
  | some true => uX P T kp o st (fun st => cJ st fun st => iD P T kp ops rest st K) (fun d rt => cJ ⟨setSlot st.env o.dst d, rt⟩ fun st => iD P T kp ops rest st K)
    (tW P T o st (fun d rt => cJ ⟨setSlot st.env o.dst d, rt⟩ fun st => iD P T kp ops rest st K) (dD P T o st fun d res => cJ (bY st o.dst d res) fun st => iD P T kp ops rest st K))
  | some false => cJ ⟨setSlot st.env o.dst (.lit Go.undef), st.rt⟩ fun st => iD P T kp ops rest st K
  | none => False
theorem Aro : ∀ (ws : List (Nat × Option Root)) (l : List (Option Root)), (∀ x ∈ ws, x.1 < l.length) → cW (aQ l) ws = aQ (dK l ws) ∧ (dK l ws).length = l.length := by
 intro ws
 induction ws with
 | nil => intro l _; exact ⟨rfl, rfl⟩
 | cons x ws ih =>
  intro l h
  obtain ⟨r, y⟩ := x
  have hr : r < l.length := h (r, y) (by simp)
  have e1 : (aQ l).set r y = aQ (l.set r y) := by
   funext q
   unfold RT.set aQ
   split
   ·rename_i e; subst e; rw [List.getElem?_set_self hr]
   ·rename_i e; rw [List.getElem?_set_ne (Ne.symm e)]
  obtain ⟨h1, h2⟩ := ih (l.set r y) (fun x hx => by simpa using h x (by simp [hx]))
  simp only [cW, dK, e1]
  exact ⟨h1, by rw [h2]; simp⟩
theorem Aqh (l new : List (Option Root)) : fG (aQ l) l.length new = aQ (l ++ new) := by
 funext q
 unfold fG aQ
 by_cases h : l.length ≤ q
 ·by_cases h2 : q < l.length + new.length
  ·rw [if_pos ⟨h, h2⟩, List.getElem?_append_right h]
  ·rw [if_neg (fun h3 => h2 h3.2), List.getElem?_eq_none h, List.getElem?_eq_none (by simp; omega)]
 ·rw [if_neg (fun h3 => h h3.1), List.getElem?_append_left (by omega)]
theorem Aaj {l : List (Option Root)} {res : Res} (h : tL l res = true) : ∀ x ∈ res.wr, x.1 < l.length := fun x hx => by
 have := List.all_eq_true.1 h x hx
 simpa [Nat.blt_eq] using this
theorem yX {l : List (Option Root)} {res : Res} (h : tL l res = true) : cS (aQ l) l.length res = aQ (dK l res.wr ++ res.new) := by
 obtain ⟨h1, h2⟩ := Aro res.wr l (Aaj h)
 unfold cS
 rw [h1, ← h2, Aqh]
theorem oU {l : List (Option Root)} {r : Nat} (h : l.length ≤ r) : aQ l r = none := List.getElem?_eq_none h
section
variable {P : Program} {T : Tab} {w0 : Base} {w : World} {a : Act}
theorem Aje (a : Act) (dst : Option Tmp) (v : Value) (i : Nat) : (a.put dst v).tmps.getD i Go.undef = if dst = some i ∧ i < a.tmps.size then v else a.tmps.getD i Go.undef := by
 cases dst with
 | none => simp [Act.put]
 | some d =>
  simp only [Act.put, Option.some.injEq]
  by_cases hd : d = i
  ·subst hd
   by_cases hlt : d < a.tmps.size
   ·rw [if_pos ⟨rfl, hlt⟩]; simp [hlt]
   ·rw [if_neg (fun h => hlt h.2)]
    simp [Array.getElem?_eq_none (Nat.le_of_not_lt hlt), hlt]
  ·rw [if_neg (fun h => hd h.1)]
   simp [Array.getElem?_setIfInBounds_ne hd]
theorem nH (env : List D) (dst : Option Nat) (d : D) (i : Nat) : (setSlot env dst d).getD i .undef = if dst = some i ∧ i < env.length then d else env.getD i .undef := by
 cases dst with
 | none => simp [setSlot]
 | some k =>
  simp only [setSlot, Option.some.injEq, List.getD_eq_getElem?_getD]
  by_cases hd : k = i
  ·subst hd
   by_cases hlt : k < env.length
   ·rw [if_pos ⟨rfl, hlt⟩]; simp [hlt]
   ·rw [if_neg (fun h => hlt h.2)]
    simp [List.getElem?_eq_none (Nat.le_of_not_lt hlt), hlt]
  ·rw [if_neg (fun h => hd h.1)]
   simp [List.getElem?_set_ne hd]
@[simp] theorem Asv (env : List D) (dst : Option Nat) (d : D) : (setSlot env dst d).length = env.length := by cases dst <;> simp [setSlot]
@[simp] theorem Asu (a : Act) (dst : Option Tmp) (v : Value) : (a.put dst v).tmps.size = a.tmps.size := by cases dst <;> simp [Act.put]
@[simp] theorem Asr (a : Act) (dst : Option Tmp) (v : Value) : (a.put dst v).defers = a.defers := by cases dst <;> rfl
theorem Sim.putSlot {env : List D} {rt : RT} {own : Nat → Option Lab} (hs : Sim w0 (fun i => env.getD i .undef) rt (fun i => a.tmps.getD i Go.undef) w own) (hl : env.length = a.tmps.size) (dst : Option Tmp) {d : D} {v : Value}
  (hm : Mt w (okb w own) own rt d v) : Sim w0 (fun i => (setSlot env dst d).getD i .undef) rt (fun i => (a.put dst v).tmps.getD i Go.undef) w own := by
 refine hs.put fun i => ?_
 simp only [Aje, nH, hl]
 by_cases h : dst = some i ∧ i < a.tmps.size
 ·right; rw [if_pos h, if_pos h]; exact hm
 ·left; rw [if_neg h, if_neg h]; exact ⟨rfl, rfl⟩
theorem C2 {rt : RT} {ok : Nat → Prop} {own : Nat → Option Lab} {d : D} {v : Value} {k : D → Prop} (h : iS d k) (hm : Mt w ok own rt d v) : ∃ d', k d' ∧ Mt w ok own rt d' v := by
 unfold iS at h
 split at h
 ·rename_i b
  have hv := hm.lit_inv
  subst hv
  cases b with
  | true => exact ⟨_, h.1 rfl, .sh _ _ (.kb _)⟩
  | false => exact ⟨_, h.2 rfl, .sh _ _ (.kb _)⟩
 ·exact ⟨_, h, hm⟩
theorem oG {ops : Array Oper} {o : Oper} {env : List D} {rt : RT} {own : Nat → Option Lab} (hs : Sim w0 (fun i => env.getD i .undef) rt (fun i => a.tmps.getD i Go.undef) w own) {b : Bool}
  (h : fX ops.toList o env = some b) : Region.wanted o (yielded ops a.tmps) = b := by
 unfold fX at h
 unfold Region.wanted
 split at h
 ·rename_i e; rw [e]; simpa using h
 ·rename_i j want e
  rw [e]
  split at h
  ·rename_i oj hj
   split at h
   ·rename_i t ht
    split at h
    ·rename_i b' hb
     simp only [Option.some.injEq] at h
     have : Mt w (okb w own) own rt (env.getD t .undef) (a.tmps.getD t Go.undef) := hs.env t
     rw [hb] at this
     have hv := this.kb_inv
     have hy : yielded ops a.tmps j = some b' := by
      unfold yielded
      have hj' : ops[j]? = some oj := by simpa using hj
      rw [hj']
      simp only [Option.bind_some, ht]
      cases hg : a.tmps[t]? with
      | none => simp [hg, Go.undef] at hv
      | some u => simp [hg] at hv; rw [hv]
     simp only [hy, ← h]
     cases b' <;> cases want <;> rfl
    ·rename_i vs hb
     simp only [Option.some.injEq] at h
     have : Mt w (okb w own) own rt (env.getD t .undef) (a.tmps.getD t Go.undef) := hs.env t
     rw [hb] at this
     have hv := this.lit_inv
     have hy : yielded ops a.tmps j = none := by
      unfold yielded
      have hj' : ops[j]? = some oj := by simpa using hj
      rw [hj']
      simp only [Option.bind_some, ht]
      cases hg : a.tmps[t]? with
      | none => rfl
      | some u => simp [hg] at hv; rw [hv]
     simp only [hy, ← h]
     cases want <;> rfl
    ·cases h
   ·cases h
  ·cases h
def A6 (tmps : Array Value) : ResultVar → Sem Value
 | .tmp t => pure (tmps.getD t Go.undef)
 | .cell a t => do loadVar t (← asAddr (tmps.getD a Go.undef))
theorem K6 (fn : Func) (tmps : Array Value) : results fn tmps = (do
  let vs ← fn.results.mapM (A6 tmps)
  pure (if h : vs.size = 1 then vs[0] else .tuple vs)) := by
 unfold results
 congr 2
theorem M1 (hT : TabOk P T) {env : List D} {rt : RT} {own : Nat → Option Lab} (hs : Sim w0 (fun i => env.getD i .undef) rt (fun i => a.tmps.getD i Go.undef) w own) : ∀ (l : List ResultVar) (K : List D → Prop), kV T env rt l K →
  ∃ ds vs, K ds ∧ vs.length = l.length ∧ ds.length = l.length ∧ (∀ (i : Nat) d v, ds[i]? = some d → vs[i]? = some v → Mt w (okb w own) own rt d v) ∧
   (l.mapM (A6 a.tmps)).run P w = .ok vs w := by
 intro l
 induction l with
 | nil => intro K h; exact ⟨[], [], h, rfl, rfl, fun i d v h => by simp at h, by simp⟩
 | cons x l ih =>
  intro K h
  cases x with
  | tmp t =>
   obtain ⟨ds, vs, h1, h2, h3, h4, h5⟩ := ih _ h
   refine ⟨_, a.tmps.getD t Go.undef :: vs, h1, by simp [h2], by simp [h3], fun i d v k1 k2 => ?_, by rw [List.mapM_cons]; simp only [A6, Sem.run_bind, Sem.run_pure, Result.andThen_ok, h5]⟩
   cases i with
   | zero => simp at k1 k2; subst k1; subst k2; simpa using hs.env t
   | succ i => exact h4 i d v (by simpa using k1) (by simpa using k2)
  | cell y t =>
   simp only [kV] at h
   obtain ⟨v0, res, h, _, _, hm, hr⟩ := Afk (P := P) (a := a) hT hs t (hs.env y) h
   obtain ⟨ds, vs, h1, h2, h3, h4, h5⟩ := ih _ h
   have hr' : (A6 a.tmps (.cell y t)).run P w = .ok v0 w := by
    have hr2 : (Instr.loadAt t (a.tmps.getD y Go.undef)).run P w = .ok v0 w := hr
    clear hr
    show (do loadVar t (← asAddr (a.tmps.getD y Go.undef)) : Sem Value).run P w = .ok v0 w
    generalize a.tmps.getD y Go.undef = av at hr2 ⊢
    cases av with
    | pointer p => cases p with
     | some ad => simpa [Instr.loadAt, Instr.sureAddr, asAddr] using hr2
     | none => simp [Instr.loadAt, Instr.sureAddr, stuck, Sem.run] at hr2
    | _ => simp [Instr.loadAt, Instr.sureAddr, stuck, Sem.run] at hr2
   refine ⟨_, v0 :: vs, h1, by simp [h2], by simp [h3], fun i d v k1 k2 => ?_, ?_⟩
   ·cases i with
    | zero => simp at k1 k2; subst k1; subst k2; exact hm
    | succ i => exact h4 i d v (by simpa using k1) (by simpa using k2)
   ·rw [List.mapM_cons]
    simp only [Sem.run_bind, hr', Result.andThen_ok, h5, Sem.run_pure]
theorem Afc (hT : TabOk P T) {env : List D} {rt : RT} {own : Nat → Option Lab} (hs : Sim w0 (fun i => env.getD i .undef) rt (fun i => a.tmps.getD i Go.undef) w own) (fn : Func) {K : D → Prop}
  (h : kV T env rt fn.results.toList fun ds => iS (iK ds) K) : ∃ d v, K d ∧ Mt w (okb w own) own rt d v ∧ (results fn a.tmps).run P w = .ok v w := by
 obtain ⟨ds, vs, h1, h2, h3, h4, h5⟩ := M1 (P := P) hT hs _ _ h
 have hm : Mt w (okb w own) own rt (iK ds) (if h : vs.toArray.size = 1 then vs.toArray[0] else .tuple vs.toArray) := by
  by_cases hl : vs.length = 1
  ·obtain ⟨v, rfl⟩ := List.length_eq_one_iff.1 hl
   obtain ⟨d, rfl⟩ := List.length_eq_one_iff.1 (show ds.length = 1 by rw [h3, ← h2]; rfl)
   exact h4 0 d v rfl rfl
  ·have e1 : iK ds = .tup ds := by
    match ds, h3 with
    | [], _ => rfl
    | [d], h3 => exact absurd (by rw [h2, ← h3]; rfl) hl
    | _ :: _ :: _, _ => rfl
   rw [e1, dif_neg (by simpa using hl)]
   exact .tup _ _ (by simp [h2, h3]) (fun i d v k1 k2 => h4 i d v k1 (by simpa using k2))
 obtain ⟨d, hk, hm'⟩ := C2 h1 hm
 refine ⟨d, _, hk, hm', ?_⟩
 rw [K6, Array.mapM_eq_mapM_toList]
 simp [Sem.run_bind, h5]
end
end Go.Vm
namespace Go.Vm
open Go Go.RowKit
section
variable {P : Program} {T : Tab} {w0 : Base} {w : World} {a : Act} {Q : Exit → Act → World → Prop}
theorem Fits.put {st : St} {own : Nat → Option Lab} {l : List (Option Root)} (hd : a.defers = []) (hl : st.env.length = a.tmps.size)
  (hs : Sim w0 (fun i => st.env.getD i .undef) (aQ l) (fun i => a.tmps.getD i Go.undef) w own) (dst : Option Tmp) {d : D} {v : Value} (hm : Mt w (okb w own) own (aQ l) d v) :
  Fits w0 ⟨setSlot st.env dst d, l⟩ (a.put dst v) w :=
 ⟨own, by simpa using hd, by simpa using hl, hs.putSlot hl dst hm⟩
theorem Ad2 (hT : TabOk P T) {st : St} (hf : Fits w0 st a w) {o : Oper} {K : D → Res → Prop} {Kc : Act → World → Prop} (h : dD P T o st K)
  (hk : ∀ d res a' w', K d res → Fits w0 (bY st o.dst d res) a' w' → Kc a' w') : o.wp P a w Kc Q := by
 obtain ⟨own, hd, hl, hs⟩ := hf
 unfold dD at h
 rw [lA] at h
 refine tB hT hs (fun res _ r h1 _ => oU h1) (fun res v w' own' hres hsim hm => ?_) h
 have h1 := aO hres
 rw [yX h1.1] at hsim hm
 obtain ⟨d', hk', hm'⟩ := C2 h1.2 hm
 exact hk d' res _ w' hk' (Fits.put hd hl hsim o.dst hm')
theorem Aq4 (hT : TabOk P T) {st : St} (hf : Fits w0 st a w) {o : Oper} {f : Operand} {args : Array Operand} {ts : Array TypeId} (ho : o.op = .call { callee := .value f, args := args, argTypes := ts })
  {K : D → List (Option Root) → Prop} {Kc : Act → World → Prop} (h : vN P T (aM st.env f) (args.toList.map (aM st.env)) st K)
  (hk : ∀ d rt a' w', K d rt → Fits w0 ⟨setSlot st.env o.dst d, rt⟩ a' w' → Kc a' w') : o.wp P a w Kc Q := by
 obtain ⟨own, hd, hl, hs⟩ := hf
 have hfv := bZ hs f
 unfold vN at h
 split at h
 ·rename_i g fs cs hfe
  rw [hfe] at hfv
  obtain ⟨first, caps, hv, hl1, hl2, hr1, hr2⟩ := hfv.fn_inv
  obtain ⟨fn, c, hfn, hbody, hname, hsvc⟩ := h
  let vals : Array Value := first ++ args.map a.eval ++ caps
  have hvl : vals.toList = first.toList ++ (args.toList.map a.eval ++ caps.toList) := by simp [vals]
  have hmt : ∀ (i : Nat) d v, (fs ++ args.toList.map (aM st.env) ++ cs)[i]? = some d → vals.toList[i]? = some v → Mt w (okb w own) own (aQ st.rt) d v := by
   intro i d v h1 h2
   rw [hvl] at h2
   rw [List.append_assoc] at h1
   by_cases hi : i < fs.length
   ·rw [List.getElem?_append_left hi] at h1
    rw [List.getElem?_append_left (by simpa [hl1] using hi)] at h2
    exact hr1 i d v h1 (by simpa using h2)
   ·rw [List.getElem?_append_right (by omega)] at h1
    rw [List.getElem?_append_right (by simp [hl1]; omega)] at h2
    simp only [Array.length_toList, hl1] at h2
    by_cases hi2 : i - fs.length < args.toList.length
    ·rw [List.getElem?_append_left (by simpa using hi2)] at h1 h2
     simp only [List.getElem?_map, Option.map_eq_some_iff] at h1 h2
     obtain ⟨x, hx, rfl⟩ := h1
     obtain ⟨y, hy, rfl⟩ := h2
     rw [hx] at hy; cases hy
     exact bZ hs x
    ·rw [List.getElem?_append_right (by simpa using hi2)] at h1 h2
     simp only [List.length_map] at h1 h2
     exact hr2 _ d v h1 (by simpa using h2)
  have hsz : vals.size = (fs ++ args.toList.map (aM st.env) ++ cs).length := by simp [vals, hl1, hl2]
  have hrun : (execOp a.eval o).run P w = .ok (.enter g vals) w := by
   have h2' : fn.name ≠ "runtime.NumGoroutine" := by simpa using hname
   have h3' : fn.body ≠ none := fun e => by rw [e] at hbody; cases hbody
   simp [execOp, ho, resolve, hv, Deferred.ofValue, invoke, vals, callFunc, program, Sem.run, hfn, h2', h3']
  unfold Oper.wp
  rw [hrun, Oper.upon_enter]
  refine calls_of_wp (fn := fn) (c := c) hfn hbody ?_
  have hrtl : ∀ r, aQ st.rt r ≠ none → r < st.rt.length := fun r h => by
   rcases Nat.lt_or_ge r st.rt.length with h' | h'
   ·exact h'
   ·exact absurd (oU h') h
  let sus : D → Value → Prop := fun d v => w0.susp d v ∨ ∃ i, d = st.env.getD i .undef ∧ v = a.tmps.getD i Go.undef
  have hbel : ∀ d v, sus d v → BelowD st.rt.length d := fun d v hp => by
   rcases hp with h | ⟨i, rfl, rfl⟩
   ·exact (hs.susp d v h).belowD hrtl
   ·exact Mt.belowD (hs.env i) hrtl
  let w1 : Base := { toWorld := w0.toWorld, prot := w0.prot, hp := w0.hp, hid := w0.hid, hh := w0.hh, hl := w0.hl, susp := sus, keep := st.rt.length, hk := hbel, hlk := fun b hb => hrtl _ (by rw [(hs.hidl b hb).2]; simp) }
  let a1 : Act := { tmps := vals ++ Array.replicate (fn.ntmps - vals.size) Go.undef, defers := [] }
  have hfit : Fits w1 ⟨(fs ++ args.toList.map (aM st.env) ++ cs) ++ List.replicate (fn.ntmps - (fs ++ args.toList.map (aM st.env) ++ cs).length) .undef, st.rt⟩ a1 w := by
   refine ⟨own, rfl, by (show (fs ++ args.toList.map (aM st.env) ++ cs ++ List.replicate (fn.ntmps - (fs ++ args.toList.map (aM st.env) ++ cs).length) D.undef).length = a1.tmps.size); rw [List.length_append, List.length_replicate, ← hsz]; simp [a1], ⟨hs.below, fun i => ?_, hs.roots, hs.lab, fun b hb => ?_, hs.inj, fun d v hp => ?_⟩⟩
   ·show Mt w (okb w own) own (aQ st.rt) ((fs ++ args.toList.map (aM st.env) ++ cs ++ List.replicate (fn.ntmps - (fs ++ args.toList.map (aM st.env) ++ cs).length) D.undef).getD i D.undef) (a1.tmps.getD i Go.undef)
    rw [List.getD_eq_getElem?_getD]
    by_cases hi : i < (fs ++ args.toList.map (aM st.env) ++ cs).length
    ·rw [List.getElem?_append_left hi, List.getElem?_eq_getElem hi, Option.getD_some]
     have hi2 : i < vals.size := by rw [hsz]; exact hi
     have e1 : a1.tmps.getD i Go.undef = vals[i] := by
      simp only [a1, Array.getD_eq_getD_getElem?]
      rw [Array.getElem?_append_left hi2, Array.getElem?_eq_getElem hi2]; rfl
     rw [e1]
     exact hmt i _ _ (List.getElem?_eq_getElem hi) (by rw [Array.getElem?_toList]; exact Array.getElem?_eq_getElem hi2)
    ·rw [List.getElem?_append_right (by omega), List.getElem?_replicate]
     split <;> exact .undef _
   ·exact hs.hidl b hb
   ·rcases hp with h | ⟨i, rfl, rfl⟩
    ·exact hs.susp d v h
    ·exact hs.env i
  refine wp_mono (hsvc w1 a1 w rfl hfit) (fun e a' w' hpost => ?_)
  obtain ⟨st', ⟨own', hd', hl', hs'⟩, he, hres⟩ := hpost
  obtain ⟨d, v, hkd, hmd, hrv⟩ := Afc hT hs' fn hres
  have hback : Fits w0 ⟨setSlot st.env o.dst d, st'.rt⟩ (a.put o.dst v) w' := by
   have hs2 : Sim w0 (fun i => st.env.getD i .undef) (aQ st'.rt) (fun i => a.tmps.getD i Go.undef) w' own' := by
    refine ⟨hs'.below, fun i => ?_, hs'.roots, hs'.lab, fun b hb => ?_, hs'.inj, fun d v hp => hs'.susp d v (.inl hp)⟩
    ·exact hs'.susp (st.env.getD i .undef) (a.tmps.getD i Go.undef) (.inr ⟨i, rfl, rfl⟩)
    ·exact hs'.hidl b hb
   exact Fits.put hd hl hs2 o.dst hmd
  have hfin := hk d st'.rt _ w' hkd hback
  rcases he with rfl | rfl
  ·exact ⟨hd', v, hrv, hfin⟩
  ·exact ⟨hd', v, hrv, hfin⟩
 ·exact h.elim
theorem R5 {env : List D} {r : Nat} {x : Operand} (h : shB r (aM env x) = true) : aM (env.map (fC r)) x = aM env x := by
 cases x with
 | tmp t =>
  simp only [aM] at h ⊢
  rw [List.getD_eq_getElem?_getD, List.getD_eq_getElem?_getD, List.getElem?_map]
  rw [List.getD_eq_getElem?_getD] at h
  cases he : env[t]? with
  | none => rfl
  | some d =>
   rw [he] at h
   show fC r d = d
   unfold fC
   rw [show shB r d = true from h]
 | const v => cases v <;> rfl
 | global g => rfl
 | func f => rfl
theorem Alm (hT : TabOk P T) {kp : Nat} (hkp : w0.keep = kp) {st : St} (hf : Fits w0 st a w) {o : Oper} {t : TypeId} {x y : Operand} (ho : o.op = .store t x y)
  {K : St → Prop} {Kc : Act → World → Prop} (h : wC T kp o st t (aM st.env x) (aM st.env y) K)
  (hk : ∀ st' a' w', K st' → Fits w0 st' a' w' → Kc a' w') : o.wp P a w Kc Q := by
 obtain ⟨own, hd, hl, hs⟩ := hf
 unfold wC at h
 split at h
 ·rename_i r off hx
  split at h
  ·rename_i R hR
   split at h
   ·rename_i r' sz' m' hy
    split at h
    ·rename_i R' hR'
     have h1 := aO h; clear h; obtain ⟨hc, hm, hlt, cs', hcs, h⟩ := h1
     simp only [Bool.and_eq_true, Bool.not_eq_true', Nat.ble_eq] at hc
     obtain ⟨hbox, hle, hsz, hne, hz, hbox', hsh⟩ := hc
     have hne' : r ≠ r' := fun e => by subst e; simp [Nat.beq_eq] at hne
     have hsx : shB r (aM st.env x) = true := by rw [hx]; simp [shB, shA, hU]
     have hsy : shB r (aM st.env y) = true := by
      rw [hy]
      show (!Nat.beq r r' || hU []) = true
      simp [hU]
     have hget : ∀ i, (st.env.map (fC r)).getD i .undef = fC r (st.env.getD i .undef) := fun i => by
      rw [List.getD_eq_getElem?_getD, List.getD_eq_getElem?_getD, List.getElem?_map]
      cases st.env[i]? with
      | none => rfl
      | some d => rfl
     have hs0 : Sim w0 (fun i => (st.env.map (fC r)).getD i .undef) (aQ st.rt) (fun i => a.tmps.getD i Go.undef) w own := by
      refine ⟨hs.below, fun i => ?_, hs.roots, hs.lab, hs.hidl, hs.inj, hs.susp⟩
      show Mt w (okb w own) own (aQ st.rt) ((st.env.map (fC r)).getD i .undef) (a.tmps.getD i Go.undef)
      rw [hget]
      unfold fC
      split
      ·exact hs.env i
      ·exact .undef _
     have hs1 := hs0.dropCell (off := off) hR hbox (fun i => by
      show shB r ((st.env.map (fC r)).getD i .undef) = true
      rw [hget]
      unfold fC
      split
      ·assumption
      ·rfl) (by rw [hkp]; exact hle) (fun r1 R1 h1 hb d hd => by
       have := List.all_eq_true.1 hsh (some R1) (List.mem_of_getElem? h1)
       obtain ⟨b1, s1, c1⟩ := R1
       simp only at hb
       subst hb
       exact List.all_eq_true.1 this d hd)
     have hrl : r < st.rt.length := (List.getElem?_eq_some_iff.1 hR).1
     have hrl' : r' < st.rt.length := (List.getElem?_eq_some_iff.1 hR').1
     refine Ab9 (n := st.rt.length) (K := fun res => res = { val := .undef, wr := [(r', none), (r, some { R with cs := cs' })], rd := [r, r'] }) hT hs1 (fun res v w' own' hres hsim hmt => ?_) t x y ho ?_
     ·subst hres
      refine hk _ _ _ h ?_
      rw [Aet] at hsim hmt
      have e1 : (((aQ st.rt).set r (some { R with cs := R.cs.set off .undef })).set r' none).set r (some { R with cs := cs' }) = aQ ((st.rt.set r' none).set r (some { R with cs := cs' })) := by
       funext q
       by_cases e : q = r
       ·subst e
        rw [RT.set_self]
        show _ = ((st.rt.set r' none).set q (some { R with cs := cs' }))[q]?
        rw [List.getElem?_set_self (by simpa using hrl)]
       ·rw [RT.set_ne _ _ e]
        show _ = ((st.rt.set r' none).set r (some { R with cs := cs' }))[q]?
        rw [List.getElem?_set_ne (fun h => e h.symm)]
        by_cases e2 : q = r'
        ·subst e2; rw [RT.set_self, List.getElem?_set_self hrl']
        ·rw [RT.set_ne _ _ e2, RT.set_ne _ _ e, List.getElem?_set_ne (fun h => e2 h.symm)]; rfl
      rw [e1] at hsim hmt
      exact Fits.put (st := ⟨st.env.map (fC r), st.rt⟩) hd (by simpa using hl) hsim o.dst (.undef _)
     ·rw [R5 hsx, R5 hsy, hx, hy]
      unfold fB
      have hsz0 : Nat.beq (T.get t).size 0 = false := by
       rw [Nat.beq_eq] at hsz
       rw [hsz]; rfl
      refine aS (by rw [hsz0]; rfl) ?_
      have e2 : ((aQ st.rt).set r (some { R with cs := R.cs.set off .undef })) r = some (some { R with cs := R.cs.set off .undef }) := RT.set_self _ _ _
      have e3 : ((aQ st.rt).set r (some { R with cs := R.cs.set off .undef })) r' = some (some R') := by rw [RT.set_ne _ _ (fun e => hne' e.symm)]; exact hR'
      simp only [e2, e3]
      simp only [hbox]
      refine aS hsz ?_
      refine aS (by rw [hz, hne]; rfl) ?_
      refine aS (by rw [hbox']; rfl) ?_
      refine ⟨hm, by simpa using hlt, fun d hd => ?_, cs', ?_, rfl⟩
      ·rw [List.getElem?_set_self (by simpa using hlt)] at hd
       cases hd; rfl
      ·rw [List.set_set]; exact hcs
    ·exact h.elim
   ·exact h.elim
  ·exact h.elim
 ·exact h.elim
theorem Acw (hT : TabOk P T) {st : St} (hf : Fits w0 st a w) {o : Oper} {f : Operand} {args : Array Operand} {ts : Array TypeId} (ho : o.op = .call { callee := .value f, args := args, argTypes := ts })
  {K : D → List (Option Root) → Prop} {Kc : Act → World → Prop} (h : jC P (aM st.env f) (args.toList.map (aM st.env)) st.rt K)
  (hk : ∀ d rt a' w', K d rt → Fits w0 ⟨setSlot st.env o.dst d, rt⟩ a' w' → Kc a' w') : o.wp P a w Kc Q := by
 obtain ⟨own, hd, hl, hs⟩ := hf
 have hfv := bZ hs f
 unfold jC at h
 split at h
 ·rename_i g fs cs hfe
  rw [hfe] at hfv
  obtain ⟨first, caps, hv, hl1, hl2, hr1, hr2⟩ := hfv.fn_inv
  obtain ⟨fn, c, hfn, hbody, hname, hsvc⟩ := h
  let vals : Array Value := first ++ args.map a.eval ++ caps
  have hvl : vals.toList = first.toList ++ (args.toList.map a.eval ++ caps.toList) := by simp [vals]
  have hmt : ∀ (i : Nat) d v, (fs ++ args.toList.map (aM st.env) ++ cs)[i]? = some d → vals[i]? = some v → Mt w (okb w own) own (aQ st.rt) d v := by
   intro i d v h1 h2
   rw [← Array.getElem?_toList, hvl] at h2
   rw [List.append_assoc] at h1
   by_cases hi : i < fs.length
   ·rw [List.getElem?_append_left hi] at h1
    rw [List.getElem?_append_left (by simpa [hl1] using hi)] at h2
    exact hr1 i d v h1 (by simpa using h2)
   ·rw [List.getElem?_append_right (by omega)] at h1
    rw [List.getElem?_append_right (by simp [hl1]; omega)] at h2
    simp only [Array.length_toList, hl1] at h2
    by_cases hi2 : i - fs.length < args.toList.length
    ·rw [List.getElem?_append_left (by simpa using hi2)] at h1 h2
     simp only [List.getElem?_map, Option.map_eq_some_iff] at h1 h2
     obtain ⟨x, hx, rfl⟩ := h1
     obtain ⟨y, hy, rfl⟩ := h2
     rw [hx] at hy; cases hy
     exact bZ hs x
    ·rw [List.getElem?_append_right (by simpa using hi2)] at h1 h2
     simp only [List.length_map] at h1 h2
     exact hr2 _ d v h1 (by simpa using h2)
  have hsz : vals.size = (fs ++ args.toList.map (aM st.env) ++ cs).length := by simp [vals, hl1, hl2]
  have hrun : (execOp a.eval o).run P w = .ok (.enter g vals) w := by
   have h2' : fn.name ≠ "runtime.NumGoroutine" := by simpa using hname
   have h3' : fn.body ≠ none := fun e => by rw [e] at hbody; cases hbody
   simp [execOp, ho, resolve, hv, Deferred.ofValue, invoke, vals, callFunc, program, Sem.run, hfn, h2', h3']
  unfold Oper.wp
  rw [hrun, Oper.upon_enter]
  refine calls_of_wp (fn := fn) (c := c) hfn hbody ?_
  have hrtl : ∀ r, aQ st.rt r ≠ none → r < st.rt.length := fun r h => by
   rcases Nat.lt_or_ge r st.rt.length with h' | h'
   ·exact h'
   ·exact absurd (oU h') h
  refine wp_mono (hsvc w0 (fun i => st.env.getD i .undef) (fun i => a.tmps.getD i Go.undef) w own vals hs (fun i => (hs.env i).belowD hrtl) (fun d v h => (hs.susp d v h).belowD hrtl) (fun b hb => hrtl _ (by rw [(hs.hidl b hb).2]; simp)) hsz hmt) (fun e a' w' hpost => ?_)
  obtain ⟨he, hd', v, d, rt', own', hrv, hkd, hs', hmd⟩ := hpost
  have hfin := hk d rt' _ w' hkd (Fits.put hd hl hs' o.dst hmd)
  rcases he with rfl | rfl
  ·exact ⟨hd', v, hrv, hfin⟩
  ·exact ⟨hd', v, hrv, hfin⟩
 ·exact h.elim
theorem Aav (hT : TabOk P T) {kp : Nat} (hkp : w0.keep = kp) {st : St} (hf : Fits w0 st a w) {o : Oper} {Km : St → Prop} {Kb Ki : D → List (Option Root) → Prop} {K : D → Res → Prop} {Kc : Act → World → Prop}
  (h : uX P T kp o st Km Kb (tW P T o st Ki (dD P T o st K)))
  (h1 : ∀ d res a' w', K d res → Fits w0 (bY st o.dst d res) a' w' → Kc a' w')
  (h2 : ∀ d rt a' w', Ki d rt → Fits w0 ⟨setSlot st.env o.dst d, rt⟩ a' w' → Kc a' w')
  (h4 : ∀ d rt a' w', Kb d rt → Fits w0 ⟨setSlot st.env o.dst d, rt⟩ a' w' → Kc a' w')
  (h3 : ∀ st' a' w', Km st' → Fits w0 st' a' w' → Kc a' w') : o.wp P a w Kc Q := by
 have low : tW P T o st Ki (dD P T o st K) → o.wp P a w Kc Q := fun h => by
  unfold tW at h
  split at h
  ·rename_i f args ts hop
   rcases h with h | h
   ·exact Ad2 hT hf h h1
   ·exact Aq4 hT hf hop h h2
  ·exact Ad2 hT hf h h1
 unfold uX at h
 split at h
 ·rename_i t x y hop
  split at h
  ·rcases h with h | h
   ·exact low h
   ·exact Alm hT hkp hf hop h h3
  ·exact low h
 ·rename_i f args ts hop
  rcases h with h | h
  ·exact low h
  ·exact Acw hT hf hop h h4
 ·exact low h
theorem Ami (hT : TabOk P T) {kp : Nat} (hkp : w0.keep = kp) (ops : Array Oper) {K : St → Prop} (hK : ∀ st' a' w', Fits w0 st' a' w' → K st' → Q .normal a' w') : ∀ (rest : List Oper) (i : Nat), ops.toList.drop i = rest →
  ∀ (st : St) (a : Act) (w : World), Fits w0 st a w → iD P T kp ops.toList rest st K → wpOps P ops Q (List.range' i rest.length) a w := by
 intro rest
 induction rest with
 | nil => intro i _ st a w hf h; exact hK st a w hf h
 | cons o rest ih =>
  intro i hi st a w hf h
  have ho : ops[i]? = some o := by
   have : (ops.toList.drop i)[0]? = some o := by rw [hi]; rfl
   rw [List.getElem?_drop] at this
   simpa using this
  have hnext : ops.toList.drop (i + 1) = rest := by
   rw [← List.drop_drop, hi]; rfl
  obtain ⟨own, hd, hl, hs⟩ := hf
  have hf : Fits w0 st a w := ⟨own, hd, hl, hs⟩
  simp only [iD, gT] at h
  rw [List.length_cons, List.range'_succ]
  simp only [wpOps, ho]
  split at h
  ·rename_i hg
   rw [oG hs hg]
   simp only [if_true]
   refine .inl ?_
   exact Aav hT hkp hf h (fun d res a' w' hk hf' => ih (i + 1) hnext _ _ _ hf' hk) (fun d rt a' w' hk hf' => ih (i + 1) hnext _ _ _ hf' hk) (fun d rt a' w' hk hf' => ih (i + 1) hnext _ _ _ hf' hk) (fun st' a' w' hk hf' => ih (i + 1) hnext _ _ _ hf' hk)
  ·rename_i hg
   rw [oG hs hg]
   simp only [Bool.false_eq_true, if_false]
   exact ih (i + 1) hnext _ _ _ (Fits.put hd hl hs o.dst (.sh _ _ (.lit _))) h
  ·exact h.elim
theorem Ak3 (hT : TabOk P T) {kp id : Nat} {ops : Array Oper} {K : St → Prop} {st : St} {Q : Exit → St → Prop} (h : iD P T kp ops.toList ops.toList st K) (hK : ∀ st', K st' → Q .normal st') :
  dJ P kp (.region id ops false) Q st := by
 intro w0 a w hkp hf
 refine wp_region ?_
 have := Ami (Q := fun e a' w' => ∃ st', Fits w0 st' a' w' ∧ Q e st') hT hkp ops (K := K) (fun st' a' w' hf hk => ⟨st', hf, hK st' hk⟩) ops.toList 0 rfl st a w hf h
 rw [List.range_eq_range']
 simpa using this
end
end Go.Vm
namespace Go.Vm
open Go Go.RowKit
section folds
variable {V : Type}
def fl : List (Nat → Option V) → Nat → (Nat → Bool) → (Nat → V) → Nat → V
 | [], _, _, s => s
 | w :: ws, k, S, s => fl ws (k + 1) S (if S k then fun x => (w x).getD (s x) else s)
theorem iY (x : Nat) : ∀ (ws : List (Nat → Option V)) (k : Nat) (S S' : Nat → Bool) (s s' : Nat → V), (∀ (j : Nat) w, ws[j]? = some w → w x ≠ none → S (k + j) = S' (k + j)) → s x = s' x →
  fl ws k S s x = fl ws k S' s' x := by
 intro ws
 induction ws with
 | nil => intro k S S' s s' _ h; exact h
 | cons w ws ih =>
  intro k S S' s s' h hs
  simp only [fl]
  refine ih (k + 1) S S' _ _ (fun j w' hj hw => by have := h (j + 1) w' (by simpa using hj) hw; rw [show k + 1 + j = k + (j + 1) by omega]; exact this) ?_
  cases hw : w x with
  | none => (repeat' split) <;> simp [hw, hs]
  | some v =>
   have := h 0 w rfl (by rw [hw]; simp)
   simp only [Nat.add_zero] at this
   rw [this]
   split <;> simp [hw, hs]
theorem Aqw (x : Nat) {v : V} : ∀ (ws : List (Nat → Option V)) (k : Nat) (S : Nat → Bool) (s : Nat → V) (i : Nat) w, ws[i]? = some w → w x = some v → S (k + i) = true →
  (∀ (j : Nat) w', ws[j]? = some w' → i < j → S (k + j) = true → w' x = none) → fl ws k S s x = v := by
 intro ws
 induction ws with
 | nil => intro k S s i w h; simp at h
 | cons w0 ws ih =>
  intro k S s i w h hw hS hno
  simp only [fl]
  cases i with
  | zero =>
   simp only [List.getElem?_cons_zero, Option.some.injEq] at h; subst h
   simp only [Nat.add_zero] at hS
   rw [hS, if_pos rfl]
   have : ∀ (ws : List (Nat → Option V)) (k' : Nat) (s : Nat → V), (∀ (j : Nat) w', ws[j]? = some w' → S (k' + j) = true → w' x = none) → fl ws k' S s x = s x := by
    intro ws
    induction ws with
    | nil => intro k' s _; rfl
    | cons w1 ws ih2 =>
     intro k' s h2
     simp only [fl]
     rw [ih2 (k' + 1) _ (fun j w' hj hS' => h2 (j + 1) w' (by simpa using hj) (by rw [show k' + (j + 1) = k' + 1 + j by omega]; exact hS'))]
     split
     ·rename_i h3
      show (w1 x).getD (s x) = s x
      rw [h2 0 w1 rfl (by simpa using h3)]; rfl
     ·rfl
   rw [this ws (k + 1) _ (fun j w' hj hS' => hno (j + 1) w' (by simpa using hj) (by omega) (by rw [show k + (j + 1) = k + 1 + j by omega]; exact hS')), hw]
   rfl
  | succ i =>
   exact ih (k + 1) S _ i w (by simpa using h) hw (by rw [show k + 1 + i = k + (i + 1) by omega]; exact hS)
    (fun j w' hj hlt hS' => hno (j + 1) w' (by simpa using hj) (by omega) (by rw [show k + (j + 1) = k + 1 + j by omega]; exact hS'))
def cA (S : Nat → Bool) (m : Nat) : Nat → Bool := fun n => n == m || S n
theorem yY (x : Nat) (ws : List (Nat → Option V)) (S : Nat → Bool) (s : Nat → V) (i : Nat) (w : Nat → Option V) (hi : ws[i]? = some w)
  (hno : ∀ (j : Nat) w', ws[j]? = some w' → i < j → S j = true → w x = none ∨ w' x = none) : fl ws 0 (cA S i) s x = (w x).getD (fl ws 0 S s x) := by
 cases hw : w x with
 | none =>
  simp only [Option.getD_none]
  refine iY x ws 0 _ _ s s (fun j w' hj hne => ?_) rfl
  simp only [Nat.zero_add, cA]
  by_cases hij : j = i
  ·subst hij; rw [hi] at hj; cases hj; exact absurd hw hne
  ·simp [hij]
 | some v =>
  simp only [Option.getD_some]
  refine Aqw x ws 0 _ s i w hi hw (by simp [cA]) (fun j w' hj hlt hS => ?_)
  simp only [Nat.zero_add, cA] at hS
  have hne : j ≠ i := by omega
  simp [hne] at hS
  exact (hno j w' hj hlt hS).resolve_left (by rw [hw]; simp)
end folds
structure Ent where
 dst : Option Nat
 val : D
 res : Res
 n : Nat
def Ent.ws (e : Ent) : List Nat := e.res.wr.map (·.1) ++ (List.range e.res.new.length).map (e.n + ·)
def yT (x : Nat) : List Nat → Bool
 | [] => false
 | y :: ys => Nat.beq x y || yT x ys
def meets : List Nat → List Nat → Bool
 | [], _ => false
 | x :: xs, ys => yT x ys || meets xs ys
def Ent.apart (e f : Ent) : Bool := match e.ws, f.ws with
 | [], [] => true
 | we, wf => !(meets we wf || meets we f.res.rd || meets e.res.rd wf)
def mY (acc : List Nat) : List Edge → Nat
 | [] => 0
 | e :: es => (if Region.binds .any e then 2 ^ e.on ||| acc.getD e.on 0 else 0) ||| mY acc es
def zW : List Oper → List Nat → List Nat
 | [], acc => acc
 | o :: os, acc => zW os (acc ++ [mY acc o.after.toList])
def eE (ops : List Oper) : List Nat := zW ops []
def oM (ops : Array Oper) : Bool :=
 let b := eE ops.toList
 (List.range ops.size).all fun j => match ops[j]? with
  | none => false
  | some oj => oj.after.toList.all (fun e => !Region.binds .any e || Nat.blt e.on j) &&
   (List.range j).all fun i => match ops[i]? with
    | none => false
    | some oi => (b.getD j 0).testBit i || oi.apart ops oj
def zT (ops : List Oper) (e : Ent) (i : Nat) : Nat → List Ent → Bool
 | _, [] => true
 | j, f :: fs => (e.apart f || ((eE ops).getD j 0).testBit i) && zT ops e i (j + 1) fs
def uK (ops : List Oper) : Nat → List Ent → Bool
 | _, [] => true
 | i, e :: es => zT ops e i (i + 1) es && uK ops (i + 1) es
def jH (P : Program) (T : Tab) (ops : List Oper) : List Oper → St → (List Ent → List Ent) → (St → Prop) → Prop
 | [], st, log, K => chk (uK ops 0 (log [])) (K st)
 | o :: rest, st, log, K => match fX ops o st.env with
  | some true => dD P T o st fun d res => cJ (bY st o.dst d res) fun st' => jH P T ops rest st' (fun l => log ({ dst := o.dst, val := d, res := res, n := st.rt.length } :: l)) K
  | some false => cJ ⟨setSlot st.env o.dst (.lit Go.undef), st.rt⟩ fun st' => jH P T ops rest st' (fun l => log ({ dst := o.dst, val := .lit Go.undef, res := { val := .undef }, n := st.rt.length } :: l)) K
  | none => False
inductive Trc (P : Program) (T : Tab) (ops : List Oper) : List Oper → St → List Ent → St → Prop
 | nil (st : St) : Trc P T ops [] st [] st
 | run (o : Oper) (rest : List Oper) (st : St) (d : D) (res : Res) (es : List Ent) (st' : St) (hg : fX ops o st.env = some true)
   (hev : ∀ (env' : List D) (rt' : RT), (∀ x ∈ o.op.operands, aM env' x = aM st.env x) → (∀ r ∈ res.rd, rt' r = aQ st.rt r) → bN P T env' rt' st.rt.length o.op (· = res))
   (hwr : tL st.rt res = true) (hn : ∀ (v : Value) (w : World) ok own rt, Mt w ok own rt res.val v → (∀ b : Bool, res.val = .lit (.bool b) → d = .kb b) → Mt w ok own rt d v) (hd : ∀ b : Bool, res.val = .lit (.bool b) → d = .kb b)
   (h : Trc P T ops rest (bY st o.dst d res) es st') : Trc P T ops (o :: rest) st ({ dst := o.dst, val := d, res := res, n := st.rt.length } :: es) st'
 | skip (o : Oper) (rest : List Oper) (st : St) (es : List Ent) (st' : St) (hg : fX ops o st.env = some false)
   (h : Trc P T ops rest ⟨setSlot st.env o.dst (.lit Go.undef), st.rt⟩ es st') : Trc P T ops (o :: rest) st ({ dst := o.dst, val := .lit Go.undef, res := { val := .undef }, n := st.rt.length } :: es) st'
theorem Adc {d : D} {k : D → Prop} (h : iS d k) : ∃ d', k d' ∧ (∀ b : Bool, d = .lit (.bool b) → d' = .kb b) ∧ (∀ (v : Value) (w : World) ok own rt, Mt w ok own rt d v → (∀ b : Bool, d = .lit (.bool b) → d' = .kb b) → Mt w ok own rt d' v) := by
 unfold iS at h
 split at h
 ·rename_i b
  refine ⟨.kb b, ?_, fun b' e => by cases e; rfl, fun v w ok own rt hm _ => ?_⟩
  ·cases b with
   | true => exact h.1 rfl
   | false => exact h.2 rfl
  ·have := hm.lit_inv; subst this; exact .sh _ _ (.kb _)
 ·rename_i hno
  exact ⟨d, h, fun b e => absurd e (hno b), fun v w ok own rt hm _ => hm⟩
theorem Adp {P : Program} {T : Tab} {ops : List Oper} : ∀ (rest : List Oper) (st : St) (log : List Ent → List Ent) (K : St → Prop), jH P T ops rest st log K →
  ∃ es st', Trc P T ops rest st es st' ∧ uK ops 0 (log es) = true ∧ K st' := by
 intro rest
 induction rest with
 | nil => intro st log K h; have := aO h; exact ⟨[], st, .nil st, this.1, this.2⟩
 | cons o rest ih =>
  intro st log K h
  simp only [jH, gT] at h
  split at h
  ·rename_i hg
   unfold dD at h
   rw [lA] at h
   obtain ⟨res, h1, hev⟩ := tI h
   obtain ⟨hwr, h2⟩ := aO h1
   obtain ⟨d, h3, hd, hn⟩ := Adc h2
   obtain ⟨es, st', h4, h5, h6⟩ := ih _ _ _ h3
   exact ⟨_, st', .run o rest st d res es st' hg hev hwr hn hd h4, h5, h6⟩
  ·rename_i hg
   obtain ⟨es, st', h4, h5, h6⟩ := ih _ _ _ h
   exact ⟨_, st', .skip o rest st es st' hg h4, h5, h6⟩
  ·exact h.elim
def Ent.sl (N : Nat) (e : Ent) : Nat → Option D := fun x => if e.dst = some x ∧ x < N then some e.val else none
def Ent.rw (e : Ent) : Nat → Option (Option (Option Root)) := fun r =>
 if e.n ≤ r ∧ r < e.n + e.res.new.length then some (e.res.new[r - e.n]?)
 else if r ∈ e.res.wr.map (·.1) then some (cW (fun _ => none) e.res.wr r) else none
theorem Abz : ∀ (ws : List (Nat × Option Root)) (rt rt' : RT) (r : Nat), (r ∈ ws.map (·.1) ∨ rt r = rt' r) → cW rt ws r = cW rt' ws r
 | [], rt, rt', r, h => by simpa [cW] using h
 | (q, x) :: ws, rt, rt', r, h => by
  simp only [cW]
  refine Abz ws _ _ r ?_
  by_cases hq : r = q
  ·subst hq; exact .inr (by simp)
  ·rw [RT.set_ne _ _ hq, RT.set_ne _ _ hq]
   rcases h with h | h
   ·simp only [List.map_cons, List.mem_cons] at h
    exact .inl (h.resolve_left hq)
   ·exact .inr h
theorem Abm : ∀ (ws : List (Nat × Option Root)) (rt : RT) (r : Nat), r ∉ ws.map (·.1) → cW rt ws r = rt r
 | [], rt, r, _ => rfl
 | (q, x) :: ws, rt, r, h => by
  simp only [List.map_cons, List.mem_cons, not_or] at h
  simp only [cW]
  rw [Abm ws _ r h.2, RT.set_ne _ _ h.1]
theorem Ent.rw_apply (e : Ent) (rt : RT) (r : Nat) : cS rt e.n e.res r = (e.rw r).getD (rt r) := by
 unfold cS fG Ent.rw
 split
 ·rfl
 ·split
  ·rename_i h; simp only [Option.getD_some]; exact Abz _ _ _ _ (.inl h)
  ·rename_i h; simp only [Option.getD_none]; exact Abm _ _ _ h
theorem Ent.rw_mem {e : Ent} {r : Nat} (h : e.rw r ≠ none) : r ∈ e.ws := by
 unfold Ent.rw at h
 unfold Ent.ws
 rw [List.mem_append]
 split at h
 ·rename_i h1
  right
  rw [List.mem_map]
  exact ⟨r - e.n, List.mem_range.2 (by omega), by omega⟩
 ·split at h
  ·rename_i h1; left; exact h1
  ·exact absurd rfl h
theorem Ad0 {x : Nat} : ∀ {l : List Nat}, yT x l = false → x ∉ l
 | [], _ => by simp
 | y :: ys, h => by
  simp only [yT, Bool.or_eq_false_iff] at h
  simp only [List.mem_cons, not_or]
  exact ⟨fun e => by rw [e] at h; have := h.1; simp at this, Ad0 h.2⟩
theorem xF : ∀ {l m : List Nat}, meets l m = false → ∀ x ∈ l, x ∉ m
 | [], _, _, x, hx => by simp at hx
 | y :: ys, m, h, x, hx => by
  simp only [meets, Bool.or_eq_false_iff] at h
  rcases List.mem_cons.1 hx with rfl | hx
  ·exact Ad0 h.1
  ·exact xF h.2 x hx
theorem Ent.apart_spec {e f : Ent} (h : e.apart f = true) : (∀ r, e.rw r ≠ none → f.rw r = none) ∧ (∀ r, e.rw r ≠ none → r ∉ f.res.rd) ∧ (∀ r ∈ e.res.rd, f.rw r = none) := by
 unfold Ent.apart at h
 split at h
 ·rename_i h1 h2
  refine ⟨fun r hr => ?_, fun r hr => ?_, fun r _ => ?_⟩
  ·have := Ent.rw_mem hr; rw [h1] at this; simp at this
  ·have := Ent.rw_mem hr; rw [h1] at this; simp at this
  ·cases hf : f.rw r with
   | none => rfl
   | some _ => have := Ent.rw_mem (e := f) (r := r) (by rw [hf]; simp); rw [h2] at this; simp at this
 ·simp only [Bool.not_eq_true', Bool.or_eq_false_iff] at h
  obtain ⟨⟨h1, h2⟩, h3⟩ := h
  refine ⟨fun r hr => ?_, fun r hr => xF h2 r (Ent.rw_mem hr), fun r hr => ?_⟩
  ·cases hf : f.rw r with
   | none => rfl
   | some _ => exact absurd (Ent.rw_mem (e := f) (r := r) (by rw [hf]; simp)) (xF h1 r (Ent.rw_mem hr))
  ·cases hf : f.rw r with
   | none => rfl
   | some _ => exact absurd (Ent.rw_mem (e := f) (r := r) (by rw [hf]; simp)) (xF h3 r hr)
theorem Ag4 {ops : List Oper} {e : Ent} {i : Nat} : ∀ (fs : List Ent) (j : Nat), zT ops e i j fs = true → ∀ (k : Nat) f, fs[k]? = some f → e.apart f = true ∨ ((eE ops).getD (j + k) 0).testBit i = true
 | [], _, _, k, f, h => by simp at h
 | g :: fs, j, h, k, f, hf => by
  simp only [zT, Bool.and_eq_true, Bool.or_eq_true] at h
  cases k with
  | zero => simp only [List.getElem?_cons_zero, Option.some.injEq] at hf; subst hf; exact h.1
  | succ k =>
   have := Ag4 fs (j + 1) h.2 k f (by simpa using hf)
   rw [show j + (k + 1) = j + 1 + k by omega]; exact this
theorem uV {ops : List Oper} : ∀ (es : List Ent) (b : Nat), uK ops b es = true → ∀ (i j : Nat) e f, es[i]? = some e → es[j]? = some f → i < j → e.apart f = true ∨ ((eE ops).getD (b + j) 0).testBit (b + i) = true
 | [], _, _, i, j, e, f, h, _, _ => by simp at h
 | g :: es, b, h, i, j, e, f, hi, hj, hlt => by
  simp only [uK, Bool.and_eq_true] at h
  cases j with
  | zero => omega
  | succ j =>
   cases i with
   | zero =>
    simp only [List.getElem?_cons_zero, Option.some.injEq] at hi; subst hi
    have := Ag4 es (b + 1) h.1 j f (by simpa using hj)
    rw [show b + (j + 1) = b + 1 + j by omega]; exact this
   | succ i =>
    have := uV es (b + 1) h.2 i j e f (by simpa using hi) (by simpa using hj) (by omega)
    rw [show b + (j + 1) = b + 1 + j by omega, show b + (i + 1) = b + 1 + i by omega]; exact this
theorem Aed {acc : List Nat} {S : Nat → Bool} {i : Nat} (hacc : ∀ k j, S k = true → (acc.getD k 0).testBit j = true → S j = true) : ∀ (es : List Edge), (∀ e ∈ es, Region.binds .any e = true → S e.on = true) →
  (mY acc es).testBit i = true → S i = true
 | [], _, h => by simp [mY] at h
 | e :: es, he, h => by
  simp only [mY, Nat.testBit_or, Bool.or_eq_true] at h
  rcases h with h | h
  ·by_cases hb : Region.binds .any e = true
   ·rw [if_pos hb, Nat.testBit_or, Bool.or_eq_true] at h
    have hon := he e (by simp) hb
    rcases h with h | h
    ·have : e.on = i := by rw [Nat.testBit_two_pow] at h; simpa using h
     rw [← this]; exact hon
    ·exact hacc _ _ hon h
   ·rw [if_neg hb] at h; simp at h
  ·exact Aed hacc es (fun x hx => he x (by simp [hx])) h
theorem rZ {ops : List Oper} {S : Nat → Bool} (hcl : ∀ k o, S k = true → ops[k]? = some o → ∀ e ∈ o.after.toList, Region.binds .any e = true → S e.on = true) :
  ∀ (os : List Oper) (acc : List Nat), (∀ k o, os[k]? = some o → ops[acc.length + k]? = some o) → (∀ k j, S k = true → (acc.getD k 0).testBit j = true → S j = true) →
  ∀ k j, S k = true → ((zW os acc).getD k 0).testBit j = true → S j = true
 | [], acc, _, hacc => hacc
 | o :: os, acc, hos, hacc => by
  simp only [zW]
  refine rZ hcl os _ (fun k o' h => ?_) (fun k j hk hj => ?_)
  ·have := hos (k + 1) o' (by simpa using h)
   rw [show (acc ++ [mY acc o.after.toList]).length + k = acc.length + (k + 1) by simp; omega]; exact this
  ·by_cases hlt : k < acc.length
   ·have e1 : (acc ++ [mY acc o.after.toList]).getD k 0 = acc.getD k 0 := by simp [List.getElem?_append_left hlt]
    rw [e1] at hj; exact hacc k j hk hj
   ·by_cases he : k = acc.length
    ·subst he
     have e1 : (acc ++ [mY acc o.after.toList]).getD acc.length 0 = mY acc o.after.toList := by simp
     rw [e1] at hj
     exact Aed hacc _ (hcl acc.length o hk (by simpa using hos 0 o rfl)) hj
    ·have e1 : (acc ++ [mY acc o.after.toList]).getD k 0 = 0 := by
      rw [List.getD_eq_getElem?_getD, List.getElem?_eq_none (by simp; omega)]; rfl
     rw [e1] at hj; simp at hj
end Go.Vm
namespace Go.Vm
open Go Go.RowKit
theorem vJ {V : Type} : ∀ (ws : List (Nat → Option V)) (k : Nat) (S : Nat → Bool) (s : Nat → V), fl ws (k + 1) S s = fl ws k (fun n => S (n + 1)) s
 | [], _, _, _ => rfl
 | w :: ws, k, S, s => by simp only [fl]; rw [vJ ws (k + 1)]
theorem oO {V : Type} (x : Nat) (ws : List (Nat → Option V)) (S : Nat → Bool) (s : Nat → V) (h : ∀ (j : Nat) w, ws[j]? = some w → w x ≠ none → S j = false) : fl ws 0 S s x = s x := by
 have h1 := iY x ws 0 S (fun _ => false) s s (fun j w hj hw => by rw [Nat.zero_add]; exact h j w hj hw) rfl
 rw [h1]
 have : ∀ (ws : List (Nat → Option V)) (k : Nat), fl ws k (fun _ => false) s = s := by
  intro ws
  induction ws with
  | nil => intro k; rfl
  | cons w ws ih => intro k; simp only [fl, Bool.false_eq_true, if_false]; exact ih (k + 1)
 rw [this]
structure AtOp (P : Program) (T : Tab) (ops : List Oper) (st : St) (es : List Ent) (i : Nat) (o : Oper) (e : Ent) (s : St) : Prop where
 env : ∀ x, s.env.getD x .undef = fl (es.map (Ent.sl st.env.length)) 0 (fun k => decide (k < i)) (fun x => st.env.getD x .undef) x
 rt : ∀ r, aQ s.rt r = fl (es.map Ent.rw) 0 (fun k => decide (k < i)) (aQ st.rt) r
 n : e.n = s.rt.length
 dst : e.dst = o.dst
 low : st.rt.length ≤ e.n
 ahead : ∀ (j : Nat) f, j < i → es[j]? = some f → (∀ r ∈ f.ws, r < e.n)
 step : (fX ops o s.env = some true ∧
   (∀ (env' : List D) (rt' : RT), (∀ x ∈ o.op.operands, aM env' x = aM s.env x) → (∀ r ∈ e.res.rd, rt' r = aQ s.rt r) → bN P T env' rt' e.n o.op (· = e.res)) ∧
   (∀ (v : Value) (w : World) ok own rt, Mt w ok own rt e.res.val v → Mt w ok own rt e.val v)) ∨
  (fX ops o s.env = some false ∧ e.val = .lit Go.undef ∧ e.res = { val := .undef })
theorem Ent.sl_apply (e : Ent) (env : List D) (d : D) (hd : e.val = d) (x : Nat) : (setSlot env e.dst d).getD x .undef = (e.sl env.length x).getD (env.getD x .undef) := by
 rw [nH]
 unfold Ent.sl
 split <;> simp [hd]
theorem Ady : ∀ (ws : List (Nat × Option Root)) (l : List (Option Root)), (dK l ws).length = l.length
 | [], _ => rfl
 | (r, x) :: ws, l => by simp only [dK]; rw [Ady ws]; simp
theorem Trc.facts {P : Program} {T : Tab} {ops : List Oper} {rest : List Oper} {st : St} {es : List Ent} {st' : St} (h : Trc P T ops rest st es st') :
  es.length = rest.length ∧ st'.env.length = st.env.length ∧
  (∀ x, st'.env.getD x .undef = fl (es.map (Ent.sl st.env.length)) 0 (fun _ => true) (fun x => st.env.getD x .undef) x) ∧
  (∀ r, aQ st'.rt r = fl (es.map Ent.rw) 0 (fun _ => true) (aQ st.rt) r) ∧
  ∀ (i : Nat) o e, rest[i]? = some o → es[i]? = some e → ∃ s, AtOp P T ops st es i o e s := by
 have go : ∀ (o : Oper) (rest : List Oper) (st st1 : St) (e : Ent) (es : List Ent) (st' : St), st1.env = setSlot st.env e.dst e.val → e.dst = o.dst → e.n = st.rt.length → (∀ r ∈ e.res.wr.map (·.1), r < st.rt.length) →
   (∀ r, aQ st1.rt r = (e.rw r).getD (aQ st.rt r)) → st1.rt.length = st.rt.length + e.res.new.length →
   ((fX ops o st.env = some true ∧
    (∀ (env' : List D) (rt' : RT), (∀ x ∈ o.op.operands, aM env' x = aM st.env x) → (∀ r ∈ e.res.rd, rt' r = aQ st.rt r) → bN P T env' rt' e.n o.op (· = e.res)) ∧
    (∀ (v : Value) (w : World) ok own rt, Mt w ok own rt e.res.val v → Mt w ok own rt e.val v)) ∨
   (fX ops o st.env = some false ∧ e.val = .lit Go.undef ∧ e.res = { val := .undef })) →
   (es.length = rest.length ∧ st'.env.length = st1.env.length ∧
    (∀ x, st'.env.getD x .undef = fl (es.map (Ent.sl st1.env.length)) 0 (fun _ => true) (fun x => st1.env.getD x .undef) x) ∧
    (∀ r, aQ st'.rt r = fl (es.map Ent.rw) 0 (fun _ => true) (aQ st1.rt) r) ∧
    ∀ (i : Nat) o e, rest[i]? = some o → es[i]? = some e → ∃ s, AtOp P T ops st1 es i o e s) →
   (e :: es).length = (o :: rest).length ∧ st'.env.length = st.env.length ∧
    (∀ x, st'.env.getD x .undef = fl ((e :: es).map (Ent.sl st.env.length)) 0 (fun _ => true) (fun x => st.env.getD x .undef) x) ∧
    (∀ r, aQ st'.rt r = fl ((e :: es).map Ent.rw) 0 (fun _ => true) (aQ st.rt) r) ∧
    ∀ (i : Nat) o' e', (o :: rest)[i]? = some o' → (e :: es)[i]? = some e' → ∃ s, AtOp P T ops st (e :: es) i o' e' s := by
  intro o rest st st1 e es st' henv hdst hn hwr hrt hlen hstep ⟨h1, h2, h3, h4, h5⟩
  have hl1 : st1.env.length = st.env.length := by rw [henv]; simp
  have hs1 : (fun x => st1.env.getD x .undef) = (fun x => (e.sl st.env.length x).getD (st.env.getD x .undef)) := by
   funext x; rw [henv]; exact Ent.sl_apply e st.env _ rfl x
  have hr1 : aQ st1.rt = (fun r => (e.rw r).getD (aQ st.rt r)) := funext hrt
  rw [hl1, hs1] at h3
  rw [hr1] at h4
  refine ⟨by simp [h1], by rw [h2, hl1], fun x => ?_, fun r => ?_, fun i o' e' ho he => ?_⟩
  ·rw [h3 x, List.map_cons, fl, vJ]; rfl
  ·rw [h4 r, List.map_cons, fl, vJ]; rfl
  ·cases i with
   | zero =>
    simp only [List.getElem?_cons_zero, Option.some.injEq] at ho he
    subst ho; subst he
    refine ⟨st, fun x => ?_, fun r => ?_, hn, hdst, by rw [hn]; exact Nat.le_refl _, fun j f hj => by omega, hstep⟩
    ·exact (oO x ((e :: es).map (Ent.sl st.env.length)) (fun k => decide (k < 0)) (fun x => st.env.getD x .undef) (fun j w _ _ => decide_eq_false (by omega))).symm
    ·exact (oO r ((e :: es).map Ent.rw) (fun k => decide (k < 0)) (aQ st.rt) (fun j w _ _ => decide_eq_false (by omega))).symm
   | succ i =>
    obtain ⟨s, hs⟩ := h5 i o' e' (by simpa using ho) (by simpa using he)
    refine ⟨s, fun x => ?_, fun r => ?_, hs.n, hs.dst, by have := hs.low; omega, fun j f hj hf => ?_, hs.step⟩
    ·have e1 := hs.env x
     rw [hl1, hs1] at e1
     rw [e1, List.map_cons, fl, vJ]
     simp only [Nat.zero_lt_succ, decide_true, if_true, Nat.succ_eq_add_one, Nat.add_lt_add_iff_right]
    ·have e1 := hs.rt r
     rw [hr1] at e1
     rw [e1, List.map_cons, fl, vJ]
     simp only [Nat.zero_lt_succ, decide_true, if_true, Nat.succ_eq_add_one, Nat.add_lt_add_iff_right]
    ·cases j with
     | zero =>
      simp only [List.getElem?_cons_zero, Option.some.injEq] at hf
      subst hf
      intro r hr
      have := hs.low
      unfold Ent.ws at hr
      rcases List.mem_append.1 hr with h | h
      ·have := hwr r h; omega
      ·simp only [List.mem_map, List.mem_range] at h
       obtain ⟨k, hk, rfl⟩ := h
       omega
     | succ j => exact hs.ahead j f (by omega) (by simpa using hf)
 induction h with
 | nil st => exact ⟨rfl, rfl, fun x => rfl, fun r => rfl, fun i o e h => by simp at h⟩
 | run o rest st d res es st' hg hev hwr hn hd h ih =>
  refine go o rest st (bY st o.dst d res) { dst := o.dst, val := d, res := res, n := st.rt.length } es st' rfl rfl rfl (fun r hr => ?_) (fun r => ?_) ?_ (.inl ⟨hg, hev, fun v w ok own rt hm => hn v w ok own rt hm hd⟩) ih
  ·simp only [List.mem_map] at hr
   obtain ⟨x, hx, rfl⟩ := hr
   exact Aaj hwr x hx
  ·have e1 := Ent.rw_apply { dst := o.dst, val := d, res := res, n := st.rt.length } (aQ st.rt) r
   rw [← e1]
   simp only [bY]
   rw [yX hwr]
  ·simp [bY, Ady]
 | skip o rest st es st' hg h ih =>
  refine go o rest st ⟨setSlot st.env o.dst (.lit Go.undef), st.rt⟩ { dst := o.dst, val := .lit Go.undef, res := { val := .undef }, n := st.rt.length } es st' rfl rfl rfl (fun r hr => by simp at hr) (fun r => ?_) (by simp) (.inr ⟨hg, rfl, rfl⟩) ih
  have : Ent.rw { dst := o.dst, val := .lit Go.undef, res := { val := .undef }, n := st.rt.length } r = none := by
   unfold Ent.rw; rw [if_neg (by simp), if_neg (by simp)]
  rw [this]; rfl
theorem M0 {α : Type} (p q : α → Bool) : ∀ (l : List α), (∀ x ∈ l, q x = true → p x = true) → (∃ x ∈ l, p x = true ∧ q x = false) → l.countP q < l.countP p := by
 intro l
 induction l with
 | nil => intro _ ⟨x, hx, _⟩; cases hx
 | cons y ys ih =>
  intro h ⟨x, hx, hp, hq⟩
  have hle : ys.countP q ≤ ys.countP p := List.countP_mono_left (fun z hz => h z (by simp [hz]))
  rw [List.countP_cons, List.countP_cons]
  rcases List.mem_cons.1 hx with rfl | hx
  ·simp [hp, hq]; omega
  ·have := ih (fun z hz => h z (by simp [hz])) ⟨x, hx, hp, hq⟩
   have h1 := h y (by simp)
   cases hqy : q y with
   | true => simp [h1 hqy]; omega
   | false => simp; omega
theorem W1 {ops : Array Oper} {o : Oper} {env env' : List D} (h : ∀ t ∈ o.looksAt ops, env'.getD t .undef = env.getD t .undef) : fX ops.toList o env' = fX ops.toList o env := by
 unfold fX
 cases hg : o.guard with
 | none => rfl
 | some g =>
  obtain ⟨j, want⟩ := g
  simp only
  cases hj : ops.toList[j]? with
  | none => rfl
  | some oj =>
   simp only
   cases ht : oj.dst with
   | none => rfl
   | some t =>
    simp only
    rw [h t]
    unfold Oper.looksAt
    rw [hg]
    have : ops[j]? = some oj := by simpa using hj
    simp [this, ht]
theorem uP {env env' : List D} {x : Operand} (h : ∀ t, x = .tmp t → env'.getD t .undef = env.getD t .undef) : aM env' x = aM env x := by
 cases x with
 | tmp t => exact h t rfl
 | const v => cases v <;> rfl
 | global g => rfl
 | func f => rfl
section
variable {P : Program} {T : Tab}
theorem Afh (hT : TabOk P T) (hm : P.follows .mixedOrders = true) {kp id : Nat} {ops : Array Oper} {K : St → Prop} {st : St} {Q : Exit → St → Prop} (hsl : oM ops = true)
  (h : jH P T ops.toList ops.toList st (fun l => l) K) (hK : ∀ st', K st' → Q .normal st') : dJ P kp (.region id ops true) Q st := by
 obtain ⟨es, st', htr, hlog, hk⟩ := Adp _ _ _ _ h
 obtain ⟨hlen, hel, hfe, hfr, hat⟩ := htr.facts
 have hN : es.length = ops.size := by rw [hlen]; simp
 -- the text
 have hsl1 : ∀ j oj, ops[j]? = some oj → (∀ e ∈ oj.after.toList, Region.binds .any e = true → e.on < j) ∧ ∀ i oi, i < j → ops[i]? = some oi → ((eE ops.toList).getD j 0).testBit i = true ∨ oi.apart ops oj = true := by
  intro j oj hj
  have hjl : j < ops.size := (Array.getElem?_eq_some_iff.1 hj).1
  have := List.all_eq_true.1 hsl j (List.mem_range.2 hjl)
  simp only [hj, Bool.and_eq_true] at this
  refine ⟨fun e he hb => ?_, fun i oi hi hoi => ?_⟩
  ·have h1 := List.all_eq_true.1 this.1 e he
   simp only [hb, Bool.not_true, Bool.false_or, Nat.blt_eq] at h1
   exact h1
  ·have h1 := List.all_eq_true.1 this.2 i (List.mem_range.2 hi)
   simp only [hoi, Bool.or_eq_true] at h1
   exact h1
 intro w0 a w _ hf
 obtain ⟨own, hd, hl, hs⟩ := hf
 let F : (Nat → Bool) → Nat → D := fun S => fl (es.map (Ent.sl st.env.length)) 0 S (fun x => st.env.getD x .undef)
 let G : (Nat → Bool) → RT := fun S => fl (es.map Ent.rw) 0 S (aQ st.rt)
 let sOf : Array Bool → Nat → Bool := fun listed k => listed.getD k false
 have key : ∀ (fuel : Nat) (listed : Array Bool) (a : Act) (w : World), listed.size = ops.size → (List.range ops.size).countP (fun i => !listed.getD i true) ≤ fuel →
   (∀ k o, sOf listed k = true → ops[k]? = some o → ∀ e ∈ o.after.toList, Region.binds .any e = true → sOf listed e.on = true) →
   (∃ (own : Nat → Option Lab) (envS : List D), a.defers = [] ∧ envS.length = a.tmps.size ∧ envS.length = st.env.length ∧ (∀ x, envS.getD x .undef = F (sOf listed) x) ∧ Sim w0 (fun i => envS.getD i .undef) (G (sOf listed)) (fun i => a.tmps.getD i Go.undef) w own) →
   wpAny P .any ops (fun e a' w' => ∃ st', Fits w0 st' a' w' ∧ Q e st') fuel listed a w := by
  intro fuel
  have done : ∀ (listed : Array Bool) (a : Act) (w : World), listed.size = ops.size → Region.ready .any ops listed = [] →
    (∃ (own : Nat → Option Lab) (envS : List D), a.defers = [] ∧ envS.length = a.tmps.size ∧ envS.length = st.env.length ∧ (∀ x, envS.getD x .undef = F (sOf listed) x) ∧ Sim w0 (fun i => envS.getD i .undef) (G (sOf listed)) (fun i => a.tmps.getD i Go.undef) w own) →
    ∃ st', Fits w0 st' a w ∧ Q .normal st' := by
   intro listed a w hsz hr ⟨own, envS, k1, k2, k3, k4, k5⟩
   have hall : ∀ i, i < ops.size → sOf listed i = true := by
    intro i
    induction i using Nat.strongRecOn with
    | _ i ih =>
     intro hi
     cases hsi : sOf listed i with
     | true => rfl
     | false =>
      have hmem : i ∈ Region.ready .any ops listed := by
       rw [mem_ready]
       have hi2 : i < listed.size := by omega
       refine ⟨?_, ops[i], Array.getElem?_eq_getElem hi, fun e he hb => ?_⟩
       ·simp only [sOf] at hsi
        simp only [Array.getD_eq_getD_getElem?, Array.getElem?_eq_getElem hi2, Option.getD_some] at hsi ⊢
        exact hsi
       ·have hlt := (hsl1 i ops[i] (Array.getElem?_eq_getElem hi)).1 e (by simpa using he) hb
        exact ih e.on hlt (by omega)
      rw [hr] at hmem; cases hmem
   refine ⟨st', ⟨own, k1, by rw [hel, ← k3]; exact k2, ?_⟩, hK st' hk⟩
   have e1 : (fun i => st'.env.getD i .undef) = (fun i => envS.getD i .undef) := by
    funext x
    rw [hfe x, k4 x]
    exact iY x _ 0 _ _ _ _ (fun j w' hj _ => by
     have : j < ops.size := by rw [← hN]; simpa using (List.getElem?_eq_some_iff.1 hj).1
     rw [Nat.zero_add]; exact (hall j this).symm) rfl
   have e2 : aQ st'.rt = G (sOf listed) := by
    funext r
    rw [hfr r]
    exact iY r _ 0 _ _ _ _ (fun j w' hj _ => by
     have : j < ops.size := by rw [← hN]; simpa using (List.getElem?_eq_some_iff.1 hj).1
     rw [Nat.zero_add]; exact (hall j this).symm) rfl
   rw [e1, e2]; exact k5
  induction fuel with
  | zero =>
   intro listed a w hsz hcnt hcl hst
   have hr : Region.ready .any ops listed = [] := by
    refine List.eq_nil_iff_forall_not_mem.2 fun i hi => ?_
    obtain ⟨h1, o, ho, _⟩ := mem_ready.1 hi
    have hlt := (Array.getElem?_eq_some_iff.1 ho).1
    have : 0 < (List.range ops.size).countP (fun i => !listed.getD i true) := List.countP_pos_iff.2 ⟨i, List.mem_range.2 hlt, by rw [h1]; rfl⟩
    omega
   exact ⟨hr, done listed a w hsz hr hst⟩
  | succ fuel ih =>
   intro listed a w hsz hcnt hcl hst
   refine ⟨fun hr => done listed a w hsz hr hst, fun i hi => ?_⟩
   obtain ⟨hun, o, ho, hedges⟩ := mem_ready.1 hi
   have hlt := (Array.getElem?_eq_some_iff.1 ho).1
   have hSi : sOf listed i = false := by
    simp only [sOf]
    have hi2 : i < listed.size := by omega
    simp only [Array.getD_eq_getD_getElem?, Array.getElem?_eq_getElem hi2, Option.getD_some] at hun ⊢
    exact hun
   obtain ⟨e, he⟩ : ∃ e, es[i]? = some e := ⟨_, List.getElem?_eq_getElem (by omega)⟩
   obtain ⟨s, hs⟩ := hat i o e (by simpa using ho) he
   obtain ⟨own, envS, k1, k2, k3, k4, k5⟩ := hst
   -- the set with i
   have hcl' : ∀ k o', cA (sOf listed) i k = true → ops.toList[k]? = some o' → ∀ e ∈ o'.after.toList, Region.binds .any e = true → cA (sOf listed) i e.on = true := by
    intro k o' hk ho' e he hb
    have ho2 : ops[k]? = some o' := by simpa using ho'
    unfold cA at hk ⊢
    simp only [Bool.or_eq_true, beq_iff_eq] at hk ⊢
    rcases hk with rfl | hk
    ·rw [ho] at ho2; cases ho2
     right; exact hedges e (by simpa using he) hb
    ·right; exact hcl k o' hk ho2 e he hb
   have bit1 : ∀ j, j ≠ i → ((eE ops.toList).getD i 0).testBit j = true → sOf listed j = true := by
    intro j hj hb
    have := rZ (ops := ops.toList) (S := cA (sOf listed) i) hcl' ops.toList [] (fun k o' h => by simpa using h) (fun k j _ h => by simp at h) i j (by simp [cA]) hb
    unfold cA at this
    simpa [hj] using this
   have bit2 : ∀ j, sOf listed j = true → ((eE ops.toList).getD j 0).testBit i = true → False := by
    intro j hj hb
    have := rZ (ops := ops.toList) (S := sOf listed) (fun k o' hk ho' => hcl k o' hk (by simpa using ho')) ops.toList [] (fun k o' h => by simpa using h) (fun k j _ h => by simp at h) j i hj hb
    rw [hSi] at this; cases this
   have entOp : ∀ (j : Nat) f, es[j]? = some f → ∃ oj, ops[j]? = some oj ∧ f.dst = oj.dst := fun j f hf => by
    have hjl : j < ops.size := by rw [← hN]; exact (List.getElem?_eq_some_iff.1 hf).1
    obtain ⟨s', hs'⟩ := hat j ops[j] f (by simp [hjl]) hf
    exact ⟨ops[j], Array.getElem?_eq_getElem hjl, hs'.dst⟩
   -- slots that the operation names
   have slot : ∀ t, (t ∈ o.looksAt ops ∨ o.dst = some t) → ∀ (j : Nat) f, es[j]? = some f → j ≠ i → f.dst = some t → (sOf listed j = decide (j < i)) := by
    intro t ht j f hf hji hdt
    obtain ⟨oj, hoj, hdj⟩ := entOp j f hf
    rw [hdj] at hdt
    by_cases hlt' : j < i
    ·rw [decide_eq_true hlt']
     rcases (hsl1 i o ho).2 j oj hlt' hoj with h | h
     ·exact bit1 j hji h
     ·obtain ⟨a1, a2, a3⟩ := Oper.apart_spec h
      rcases ht with ht | ht
      ·exact absurd ht (a1 t hdt)
      ·exact absurd ht (a2 t hdt)
    ·rw [decide_eq_false hlt']
     have hij : i < j := by omega
     cases hsj : sOf listed j with
     | false => rfl
     | true =>
      rcases (hsl1 j oj hoj).2 i o hij ho with h | h
      ·exact (bit2 j hsj h).elim
      ·obtain ⟨a1, a2, a3⟩ := Oper.apart_spec h
       rcases ht with ht | ht
       ·exact absurd ht (a3 t hdt)
       ·exact absurd hdt (a2 t ht)
   have root : ∀ r, (r ∈ e.res.rd ∨ e.rw r ≠ none) → ∀ (j : Nat) f, es[j]? = some f → j ≠ i → f.rw r ≠ none → (sOf listed j = decide (j < i)) := by
    intro r hr j f hf hji hfr'
    by_cases hlt' : j < i
    ·rw [decide_eq_true hlt']
     rcases uV es 0 hlog j i f e hf he hlt' with h | h
     ·obtain ⟨a1, a2, a3⟩ := Ent.apart_spec h
      rcases hr with hr | hr
      ·exact absurd hr (a2 r hfr')
      ·exact absurd (a1 r hfr') hr
     ·simp only [Nat.zero_add] at h; exact bit1 j hji h
    ·rw [decide_eq_false hlt']
     have hij : i < j := by omega
     cases hsj : sOf listed j with
     | false => rfl
     | true =>
      rcases uV es 0 hlog i j e f he hf hij with h | h
      ·obtain ⟨a1, a2, a3⟩ := Ent.apart_spec h
       rcases hr with hr | hr
       ·exact absurd (a3 r hr) hfr'
       ·exact absurd (a1 r hr) hfr'
      ·simp only [Nat.zero_add] at h; exact (bit2 j hsj h).elim
   have sameSlot : ∀ t, t ∈ o.looksAt ops → envS.getD t .undef = s.env.getD t .undef := by
    intro t ht
    rw [k4 t, hs.env t]
    refine iY t _ 0 _ _ _ _ (fun j w' hj hw => ?_) rfl
    simp only [List.getElem?_map, Option.map_eq_some_iff] at hj
    obtain ⟨f, hf, rfl⟩ := hj
    rw [Nat.zero_add]
    by_cases hji : j = i
    ·subst hji; rw [hSi]; simp
    ·refine slot t (.inl ht) j f hf hji ?_
     unfold Ent.sl at hw
     split at hw
     ·rename_i h; exact h.1
     ·exact absurd rfl hw
   have sameRoot : ∀ r ∈ e.res.rd, G (sOf listed) r = aQ s.rt r := by
    intro r hr
    rw [hs.rt r]
    refine iY r _ 0 _ _ _ _ (fun j w' hj hw => ?_) rfl
    simp only [List.getElem?_map, Option.map_eq_some_iff] at hj
    obtain ⟨f, hf, rfl⟩ := hj
    rw [Nat.zero_add]
    by_cases hji : j = i
    ·subst hji; rw [hSi]; simp
    ·exact root r (.inl hr) j f hf hji hw
   -- the next state
   have hS' : ∀ k, k < ops.size → sOf (listed.setIfInBounds i true) k = cA (sOf listed) i k := by
    intro k hkl
    simp only [sOf, cA]
    by_cases hki : k = i
    ·subst hki
     simp only [Array.getD_eq_getD_getElem?]
     rw [Array.getElem?_setIfInBounds_self_of_lt (by omega)]; simp
    ·simp only [Array.getD_eq_getD_getElem?]
     rw [Array.getElem?_setIfInBounds_ne (Ne.symm hki)]
     simp [hki]
   have nextF : ∀ x, F (sOf (listed.setIfInBounds i true)) x = (e.sl st.env.length x).getD (F (sOf listed) x) := by
    intro x
    have e1 : F (sOf (listed.setIfInBounds i true)) x = F (cA (sOf listed) i) x := iY x _ 0 _ _ _ _ (fun j w' hj _ => by
     rw [Nat.zero_add]; exact hS' j (by rw [← hN]; simpa using (List.getElem?_eq_some_iff.1 hj).1)) rfl
    rw [e1]
    refine yY x _ _ _ i _ (by simp [he]) (fun j w' hj hij hSj => ?_)
    simp only [List.getElem?_map, Option.map_eq_some_iff] at hj
    obtain ⟨f, hf, rfl⟩ := hj
    by_cases h1 : e.sl st.env.length x = none
    ·exact .inl h1
    ·right
     cases h2 : f.sl st.env.length x with
     | none => rfl
     | some _ =>
      unfold Ent.sl at h1 h2
      split at h1
      ·rename_i h3
       split at h2
       ·rename_i h4
        have := slot x (.inr (by rw [← hs.dst]; exact h3.1)) j f hf (by omega) h4.1
        rw [hSj, decide_eq_false (by omega)] at this; cases this
       ·cases h2
      ·exact absurd rfl h1
   have nextG : ∀ r, G (sOf (listed.setIfInBounds i true)) r = (e.rw r).getD (G (sOf listed) r) := by
    intro r
    have e1 : G (sOf (listed.setIfInBounds i true)) r = G (cA (sOf listed) i) r := iY r _ 0 _ _ _ _ (fun j w' hj _ => by
     rw [Nat.zero_add]; exact hS' j (by rw [← hN]; simpa using (List.getElem?_eq_some_iff.1 hj).1)) rfl
    rw [e1]
    refine yY r _ _ _ i _ (by simp [he]) (fun j w' hj hij hSj => ?_)
    simp only [List.getElem?_map, Option.map_eq_some_iff] at hj
    obtain ⟨f, hf, rfl⟩ := hj
    by_cases h1 : e.rw r = none
    ·exact .inl h1
    ·right
     cases h2 : f.rw r with
     | none => rfl
     | some _ =>
      have := root r (.inr h1) j f hf (by omega) (by rw [h2]; simp)
      rw [hSj, decide_eq_false (by omega)] at this; cases this
   have fin : ∀ (a' : Act) (w' : World) (own' : Nat → Option Lab) (v : Value), a' = a.put o.dst v → Sim w0 (fun i => envS.getD i .undef) (fun r => (e.rw r).getD (G (sOf listed) r)) (fun i => a.tmps.getD i Go.undef) w' own' →
     Mt w' (okb w' own') own' (fun r => (e.rw r).getD (G (sOf listed) r)) e.val v →
     wpAny P .any ops (fun e a' w' => ∃ st', Fits w0 st' a' w' ∧ Q e st') fuel (listed.setIfInBounds i true) a' w' := by
    intro a' w' own' v ha' hsim hmt
    subst ha'
    have hG : G (sOf (listed.setIfInBounds i true)) = (fun r => (e.rw r).getD (G (sOf listed) r)) := funext nextG
    refine ih _ _ _ (by simpa using hsz) ?_ (fun k o' hk ho' e' he' hb => ?_) ⟨own', setSlot envS o.dst e.val, by simpa using k1, by simpa using k2, by simpa using k3, fun x => ?_, ?_⟩
    ·have hc : (List.range ops.size).countP (fun k => !(listed.setIfInBounds i true).getD k true) < (List.range ops.size).countP (fun k => !listed.getD k true) := by
      refine M0 _ _ _ (fun k hk hq => ?_) ⟨i, List.mem_range.2 hlt, by rw [hun]; rfl, ?_⟩
      ·by_cases hki : k = i
       ·subst hki; rw [hun]; rfl
       ·have := getD_set_ne (listed := listed) true (Ne.symm hki)
        rw [this] at hq; exact hq
      ·simp only [Array.getD_eq_getD_getElem?]
       rw [Array.getElem?_setIfInBounds_self_of_lt (by omega)]; rfl
     omega
    ·have hkl := (Array.getElem?_eq_some_iff.1 ho').1
     rw [hS' k hkl] at hk
     have h1 := hcl' k o' hk (by simpa using ho') e' he' hb
     have hlt' := (hsl1 k o' ho').1 e' he' hb
     rw [hS' e'.on (by omega)]; exact h1
    ·rw [nextF x, ← k4 x, ← hs.dst, Ent.sl_apply e envS e.val rfl x, k3]
    ·rw [hG]
     exact hsim.putSlot k2 o.dst hmt
   have hgc := W1 (ops := ops) (o := o) (env := s.env) (env' := envS) sameSlot
   unfold wpOp
   simp only [ho]
   rcases hs.step with ⟨hg, hev, hn⟩ | ⟨hg, hv, hres⟩
   ·rw [← hgc] at hg
    rw [oG k5 hg]
    simp only [if_true]
    refine .inl ?_
    have hev' := hev envS (G (sOf listed)) (fun x hx => uP (fun t ht => by
     refine sameSlot t ?_
     subst ht
     unfold Oper.looksAt
     exact List.mem_append.2 (.inl (List.mem_filterMap.2 ⟨.tmp t, by simpa using hx, rfl⟩)))) sameRoot
    refine tB hT k5 (fun res hres r h1 h2 => ?_) (fun res v w' own' hres hsim hmt => ?_) hev'
    ·subst hres
     have hrn : e.rw r ≠ none := by unfold Ent.rw; rw [if_pos ⟨h1, h2⟩]; simp
     have hnone : aQ st.rt r = none := oU (by have := hs.low; omega)
     show fl (es.map Ent.rw) 0 (sOf listed) (aQ st.rt) r = none
     rw [← hnone]
     refine oO r _ _ _ (fun j w' hj hw => ?_)
     simp only [List.getElem?_map, Option.map_eq_some_iff] at hj
     obtain ⟨f, hf, rfl⟩ := hj
     by_cases hji : j = i
     ·subst hji; exact hSi
     ·have := root r (.inr hrn) j f hf hji hw
      rw [this]
      by_cases hlt' : j < i
      ·have := hs.ahead j f hlt' hf r (Ent.rw_mem hw); omega
      ·exact decide_eq_false hlt'
    ·subst hres
     have happ : cS (G (sOf listed)) e.n e.res = (fun r => (e.rw r).getD (G (sOf listed) r)) := funext (Ent.rw_apply e _)
     rw [happ] at hsim hmt
     exact fin _ w' own' v rfl hsim (hn v w' _ _ _ hmt)
   ·rw [← hgc] at hg
    rw [oG k5 hg]
    simp only [Bool.false_eq_true, if_false]
    have hnone : (fun r => (e.rw r).getD (G (sOf listed) r)) = G (sOf listed) := by
     funext r
     have : e.rw r = none := by unfold Ent.rw; rw [hres]; rw [if_neg (by simp), if_neg (by simp)]
     rw [this]; rfl
    refine fin _ w own Go.undef rfl (by rw [hnone]; exact k5) (by rw [hv]; exact .sh _ _ (.lit _))
 refine wp_region_any hm (key ops.size (Array.replicate ops.size false) a _ (by simp) ?_ (fun k o hk => ?_) ?_)
 ·exact Nat.le_trans List.countP_le_length (by simp)
 ·exfalso
  simp only [sOf, Array.getD_eq_getD_getElem?, Array.getElem?_replicate] at hk
  split at hk <;> simp at hk
 ·have hfalse : ∀ k, sOf (Array.replicate ops.size false) k = false := fun k => by
   simp only [sOf, Array.getD_eq_getD_getElem?, Array.getElem?_replicate]
   split <;> rfl
  have e2 : G (sOf (Array.replicate ops.size false)) = aQ st.rt := by
   funext r; exact oO r (es.map Ent.rw) (sOf (Array.replicate ops.size false)) (aQ st.rt) (fun j w _ _ => hfalse j)
  refine ⟨own, st.env, hd, hl, rfl, fun x => (oO x (es.map (Ent.sl st.env.length)) (sOf (Array.replicate ops.size false)) (fun x => st.env.getD x .undef) (fun j w _ _ => hfalse j)).symm, ?_⟩
  rw [e2]
  exact hs.more ((Below.refl _ _).drew)
theorem Anp (hT : TabOk P T) (hm : P.follows .mixedOrders = true) {kp id : Nat} {ops : Array Oper} {K : St → Prop} {st : St} {Q : Exit → St → Prop} {pre : List Oper} {o0 : Oper} (hops : ops.toList = pre ++ [o0])
  (hbef : ∀ j, j < pre.length → ((eE ops.toList).getD pre.length 0).testBit j = true) (hsl : oM ops = true)
  (h : jH P T ops.toList pre st (fun l => l) (fun st' => iD P T kp ops.toList [o0] st' K)) (hK : ∀ st', K st' → Q .normal st') : dJ P kp (.region id ops true) Q st := by
 obtain ⟨es, st', htr, hlog, hk⟩ := Adp _ _ _ _ h
 obtain ⟨hlen, hel, hfe, hfr, hat⟩ := htr.facts
 have hN : es.length = pre.length := hlen
 have hsz0 : ops.size = pre.length + 1 := by rw [← Array.length_toList, hops]; simp
 have hpre : ∀ i o, i < pre.length → ops[i]? = some o → pre[i]? = some o := fun i o hi ho => by
  rw [← Array.getElem?_toList, hops, List.getElem?_append_left hi] at ho; exact ho
 have ho0 : ops[pre.length]? = some o0 := by rw [← Array.getElem?_toList, hops, List.getElem?_append_right (Nat.le_refl _)]; simp
 -- the text
 have hsl1 : ∀ j oj, ops[j]? = some oj → (∀ e ∈ oj.after.toList, Region.binds .any e = true → e.on < j) ∧ ∀ i oi, i < j → ops[i]? = some oi → ((eE ops.toList).getD j 0).testBit i = true ∨ oi.apart ops oj = true := by
  intro j oj hj
  have hjl : j < ops.size := (Array.getElem?_eq_some_iff.1 hj).1
  have := List.all_eq_true.1 hsl j (List.mem_range.2 hjl)
  simp only [hj, Bool.and_eq_true] at this
  refine ⟨fun e he hb => ?_, fun i oi hi hoi => ?_⟩
  ·have h1 := List.all_eq_true.1 this.1 e he
   simp only [hb, Bool.not_true, Bool.false_or, Nat.blt_eq] at h1
   exact h1
  ·have h1 := List.all_eq_true.1 this.2 i (List.mem_range.2 hi)
   simp only [hoi, Bool.or_eq_true] at h1
   exact h1
 intro w0 a w hkp hf
 obtain ⟨own, hd, hl, hs⟩ := hf
 let F : (Nat → Bool) → Nat → D := fun S => fl (es.map (Ent.sl st.env.length)) 0 S (fun x => st.env.getD x .undef)
 let G : (Nat → Bool) → RT := fun S => fl (es.map Ent.rw) 0 S (aQ st.rt)
 let sOf : Array Bool → Nat → Bool := fun listed k => listed.getD k false
 have key : ∀ (fuel : Nat) (listed : Array Bool) (a : Act) (w : World), listed.size = ops.size → (List.range ops.size).countP (fun i => !listed.getD i true) ≤ fuel →
   sOf listed pre.length = false → (∀ k o, sOf listed k = true → ops[k]? = some o → ∀ e ∈ o.after.toList, Region.binds .any e = true → sOf listed e.on = true) →
   (∃ (own : Nat → Option Lab) (envS : List D), a.defers = [] ∧ envS.length = a.tmps.size ∧ envS.length = st.env.length ∧ (∀ x, envS.getD x .undef = F (sOf listed) x) ∧ Sim w0 (fun i => envS.getD i .undef) (G (sOf listed)) (fun i => a.tmps.getD i Go.undef) w own) →
   wpAny P .any ops (fun e a' w' => ∃ st', Fits w0 st' a' w' ∧ Q e st') fuel listed a w := by
  intro fuel
  have done : ∀ (listed : Array Bool), listed.size = ops.size → sOf listed pre.length = false → Region.ready .any ops listed = [] → False := by
   intro listed hsz hlast hr
   have hall : ∀ i, i < ops.size → sOf listed i = true := by
    intro i
    induction i using Nat.strongRecOn with
    | _ i ih =>
     intro hi
     cases hsi : sOf listed i with
     | true => rfl
     | false =>
      have hmem : i ∈ Region.ready .any ops listed := by
       rw [mem_ready]
       have hi2 : i < listed.size := by omega
       refine ⟨?_, ops[i], Array.getElem?_eq_getElem hi, fun e he hb => ?_⟩
       ·simp only [sOf] at hsi
        simp only [Array.getD_eq_getD_getElem?, Array.getElem?_eq_getElem hi2, Option.getD_some] at hsi ⊢
        exact hsi
       ·have hlt := (hsl1 i ops[i] (Array.getElem?_eq_getElem hi)).1 e (by simpa using he) hb
        exact ih e.on hlt (by omega)
      rw [hr] at hmem; cases hmem
   rw [hall pre.length (by omega)] at hlast; cases hlast
  induction fuel with
  | zero =>
   intro listed a w hsz hcnt hlast hcl hst
   have hr : Region.ready .any ops listed = [] := by
    refine List.eq_nil_iff_forall_not_mem.2 fun i hi => ?_
    obtain ⟨h1, o, ho, _⟩ := mem_ready.1 hi
    have hlt := (Array.getElem?_eq_some_iff.1 ho).1
    have : 0 < (List.range ops.size).countP (fun i => !listed.getD i true) := List.countP_pos_iff.2 ⟨i, List.mem_range.2 hlt, by rw [h1]; rfl⟩
    omega
   exact (done listed hsz hlast hr).elim
  | succ fuel ih =>
   intro listed a w hsz hcnt hlast hcl hst
   refine ⟨fun hr => (done listed hsz hlast hr).elim, fun i hi => ?_⟩
   obtain ⟨hun, o, ho, hedges⟩ := mem_ready.1 hi
   have hlt := (Array.getElem?_eq_some_iff.1 ho).1
   have hSi : sOf listed i = false := by
    simp only [sOf]
    have hi2 : i < listed.size := by omega
    simp only [Array.getD_eq_getD_getElem?, Array.getElem?_eq_getElem hi2, Option.getD_some] at hun ⊢
    exact hun
   by_cases hin : i = pre.length
   ·subst hin
    rw [ho0] at ho; cases ho
    obtain ⟨own, envS, k1, k2, k3, k4, k5⟩ := hst
    have hclL : ∀ k o', cA (sOf listed) pre.length k = true → ops.toList[k]? = some o' → ∀ e ∈ o'.after.toList, Region.binds .any e = true → cA (sOf listed) pre.length e.on = true := by
     intro k o' hk ho' e he hb
     have ho2 : ops[k]? = some o' := by simpa using ho'
     unfold cA at hk ⊢
     simp only [Bool.or_eq_true, beq_iff_eq] at hk ⊢
     rcases hk with rfl | hk
     ·rw [ho0] at ho2; cases ho2
      right; exact hedges e (by simpa using he) hb
     ·right; exact hcl k o' hk ho2 e he hb
    have hall : ∀ j, j < pre.length → sOf listed j = true := fun j hj => by
     have := rZ (ops := ops.toList) (S := cA (sOf listed) pre.length) hclL ops.toList [] (fun k o' h => by simpa using h) (fun k j _ h => by simp at h) pre.length j (by simp [cA]) (hbef j hj)
     unfold cA at this
     simpa [show j ≠ pre.length by omega] using this
    have e1 : (fun i => st'.env.getD i .undef) = (fun i => envS.getD i .undef) := by
     funext x
     rw [hfe x, k4 x]
     exact iY x _ 0 _ _ _ _ (fun j w' hj _ => by
      have : j < pre.length := by rw [← hN]; simpa using (List.getElem?_eq_some_iff.1 hj).1
      rw [Nat.zero_add]; exact (hall j this).symm) rfl
    have e2 : aQ st'.rt = G (sOf listed) := by
     funext r
     rw [hfr r]
     exact iY r _ 0 _ _ _ _ (fun j w' hj _ => by
      have : j < pre.length := by rw [← hN]; simpa using (List.getElem?_eq_some_iff.1 hj).1
      rw [Nat.zero_add]; exact (hall j this).symm) rfl
    rw [← e2] at k5
    have hs : Sim w0 (fun i => st'.env.getD i .undef) (aQ st'.rt) (fun i => a.tmps.getD i Go.undef) w own := by rw [e1]; exact k5
    have hf : Fits w0 st' a w := ⟨own, k1, by rw [hel, ← k3]; exact k2, hs⟩
    have hrdy : Region.ready .any ops (listed.setIfInBounds pre.length true) = [] := by
     refine List.eq_nil_iff_forall_not_mem.2 fun q hq => ?_
     obtain ⟨h1, o', ho', _⟩ := mem_ready.1 hq
     have hql := (Array.getElem?_eq_some_iff.1 ho').1
     by_cases hqn : q = pre.length
     ·subst hqn
      simp only [Array.getD_eq_getD_getElem?] at h1
      rw [Array.getElem?_setIfInBounds_self_of_lt (by omega)] at h1
      cases h1
     ·rw [getD_set_ne (listed := listed) true (fun e => hqn e.symm)] at h1
      have h2 := hall q (by omega)
      simp only [sOf, Array.getD_eq_getD_getElem?] at h1 h2
      have hq2 : q < listed.size := by omega
      rw [Array.getElem?_eq_getElem hq2, Option.getD_some] at h1 h2
      rw [h1] at h2; cases h2
    have fin0 : ∀ (st2 : St) (a' : Act) (w' : World), Fits w0 st2 a' w' → K st2 → wpAny P .any ops (fun e a' w' => ∃ st', Fits w0 st' a' w' ∧ Q e st') fuel (listed.setIfInBounds pre.length true) a' w' := by
     intro st2 a' w' hf2 hk2
     cases fuel with
     | zero => exact ⟨hrdy, st2, hf2, hK st2 hk2⟩
     | succ fuel => exact ⟨fun _ => ⟨st2, hf2, hK st2 hk2⟩, fun q hq => by rw [hrdy] at hq; cases hq⟩
    simp only [iD, gT] at hk
    unfold wpOp
    simp only [ho0]
    split at hk
    ·rename_i hg
     rw [oG hs hg]
     simp only [if_true]
     refine .inl ?_
     exact Aav hT hkp hf hk (fun d res a' w' hk hf' => fin0 _ _ _ hf' hk) (fun d rt a' w' hk hf' => fin0 _ _ _ hf' hk) (fun d rt a' w' hk hf' => fin0 _ _ _ hf' hk) (fun st' a' w' hk hf' => fin0 _ _ _ hf' hk)
    ·rename_i hg
     rw [oG hs hg]
     simp only [Bool.false_eq_true, if_false]
     refine fin0 _ _ _ (Fits.put k1 (by rw [hel, ← k3]; exact k2) hs _ (.sh _ _ (.lit _))) hk
    ·exact hk.elim
   have hin' : i < pre.length := by omega
   obtain ⟨e, he⟩ : ∃ e, es[i]? = some e := ⟨_, List.getElem?_eq_getElem (by omega)⟩
   obtain ⟨s, hs⟩ := hat i o e (hpre i o hin' ho) he
   obtain ⟨own, envS, k1, k2, k3, k4, k5⟩ := hst
   -- the set with i
   have hcl' : ∀ k o', cA (sOf listed) i k = true → ops.toList[k]? = some o' → ∀ e ∈ o'.after.toList, Region.binds .any e = true → cA (sOf listed) i e.on = true := by
    intro k o' hk ho' e he hb
    have ho2 : ops[k]? = some o' := by simpa using ho'
    unfold cA at hk ⊢
    simp only [Bool.or_eq_true, beq_iff_eq] at hk ⊢
    rcases hk with rfl | hk
    ·rw [ho] at ho2; cases ho2
     right; exact hedges e (by simpa using he) hb
    ·right; exact hcl k o' hk ho2 e he hb
   have bit1 : ∀ j, j ≠ i → ((eE ops.toList).getD i 0).testBit j = true → sOf listed j = true := by
    intro j hj hb
    have := rZ (ops := ops.toList) (S := cA (sOf listed) i) hcl' ops.toList [] (fun k o' h => by simpa using h) (fun k j _ h => by simp at h) i j (by simp [cA]) hb
    unfold cA at this
    simpa [hj] using this
   have bit2 : ∀ j, sOf listed j = true → ((eE ops.toList).getD j 0).testBit i = true → False := by
    intro j hj hb
    have := rZ (ops := ops.toList) (S := sOf listed) (fun k o' hk ho' => hcl k o' hk (by simpa using ho')) ops.toList [] (fun k o' h => by simpa using h) (fun k j _ h => by simp at h) j i hj hb
    rw [hSi] at this; cases this
   have entOp : ∀ (j : Nat) f, es[j]? = some f → ∃ oj, ops[j]? = some oj ∧ f.dst = oj.dst := fun j f hf => by
    have hjl0 : j < pre.length := by rw [← hN]; exact (List.getElem?_eq_some_iff.1 hf).1
    have hjl : j < ops.size := by omega
    obtain ⟨s', hs'⟩ := hat j ops[j] f (hpre j _ hjl0 (Array.getElem?_eq_getElem hjl)) hf
    exact ⟨ops[j], Array.getElem?_eq_getElem hjl, hs'.dst⟩
   -- slots that the operation names
   have slot : ∀ t, (t ∈ o.looksAt ops ∨ o.dst = some t) → ∀ (j : Nat) f, es[j]? = some f → j ≠ i → f.dst = some t → (sOf listed j = decide (j < i)) := by
    intro t ht j f hf hji hdt
    obtain ⟨oj, hoj, hdj⟩ := entOp j f hf
    rw [hdj] at hdt
    by_cases hlt' : j < i
    ·rw [decide_eq_true hlt']
     rcases (hsl1 i o ho).2 j oj hlt' hoj with h | h
     ·exact bit1 j hji h
     ·obtain ⟨a1, a2, a3⟩ := Oper.apart_spec h
      rcases ht with ht | ht
      ·exact absurd ht (a1 t hdt)
      ·exact absurd ht (a2 t hdt)
    ·rw [decide_eq_false hlt']
     have hij : i < j := by omega
     cases hsj : sOf listed j with
     | false => rfl
     | true =>
      rcases (hsl1 j oj hoj).2 i o hij ho with h | h
      ·exact (bit2 j hsj h).elim
      ·obtain ⟨a1, a2, a3⟩ := Oper.apart_spec h
       rcases ht with ht | ht
       ·exact absurd ht (a3 t hdt)
       ·exact absurd hdt (a2 t ht)
   have root : ∀ r, (r ∈ e.res.rd ∨ e.rw r ≠ none) → ∀ (j : Nat) f, es[j]? = some f → j ≠ i → f.rw r ≠ none → (sOf listed j = decide (j < i)) := by
    intro r hr j f hf hji hfr'
    by_cases hlt' : j < i
    ·rw [decide_eq_true hlt']
     rcases uV es 0 hlog j i f e hf he hlt' with h | h
     ·obtain ⟨a1, a2, a3⟩ := Ent.apart_spec h
      rcases hr with hr | hr
      ·exact absurd hr (a2 r hfr')
      ·exact absurd (a1 r hfr') hr
     ·simp only [Nat.zero_add] at h; exact bit1 j hji h
    ·rw [decide_eq_false hlt']
     have hij : i < j := by omega
     cases hsj : sOf listed j with
     | false => rfl
     | true =>
      rcases uV es 0 hlog i j e f he hf hij with h | h
      ·obtain ⟨a1, a2, a3⟩ := Ent.apart_spec h
       rcases hr with hr | hr
       ·exact absurd (a3 r hr) hfr'
       ·exact absurd (a1 r hr) hfr'
      ·simp only [Nat.zero_add] at h; exact (bit2 j hsj h).elim
   have sameSlot : ∀ t, t ∈ o.looksAt ops → envS.getD t .undef = s.env.getD t .undef := by
    intro t ht
    rw [k4 t, hs.env t]
    refine iY t _ 0 _ _ _ _ (fun j w' hj hw => ?_) rfl
    simp only [List.getElem?_map, Option.map_eq_some_iff] at hj
    obtain ⟨f, hf, rfl⟩ := hj
    rw [Nat.zero_add]
    by_cases hji : j = i
    ·subst hji; rw [hSi]; simp
    ·refine slot t (.inl ht) j f hf hji ?_
     unfold Ent.sl at hw
     split at hw
     ·rename_i h; exact h.1
     ·exact absurd rfl hw
   have sameRoot : ∀ r ∈ e.res.rd, G (sOf listed) r = aQ s.rt r := by
    intro r hr
    rw [hs.rt r]
    refine iY r _ 0 _ _ _ _ (fun j w' hj hw => ?_) rfl
    simp only [List.getElem?_map, Option.map_eq_some_iff] at hj
    obtain ⟨f, hf, rfl⟩ := hj
    rw [Nat.zero_add]
    by_cases hji : j = i
    ·subst hji; rw [hSi]; simp
    ·exact root r (.inl hr) j f hf hji hw
   -- the next state
   have hS' : ∀ k, k < ops.size → sOf (listed.setIfInBounds i true) k = cA (sOf listed) i k := by
    intro k hkl
    simp only [sOf, cA]
    by_cases hki : k = i
    ·subst hki
     simp only [Array.getD_eq_getD_getElem?]
     rw [Array.getElem?_setIfInBounds_self_of_lt (by omega)]; simp
    ·simp only [Array.getD_eq_getD_getElem?]
     rw [Array.getElem?_setIfInBounds_ne (Ne.symm hki)]
     simp [hki]
   have nextF : ∀ x, F (sOf (listed.setIfInBounds i true)) x = (e.sl st.env.length x).getD (F (sOf listed) x) := by
    intro x
    have e1 : F (sOf (listed.setIfInBounds i true)) x = F (cA (sOf listed) i) x := iY x _ 0 _ _ _ _ (fun j w' hj _ => by
     rw [Nat.zero_add]; exact hS' j (by have : j < pre.length := (by rw [← hN]; simpa using (List.getElem?_eq_some_iff.1 hj).1); omega)) rfl
    rw [e1]
    refine yY x _ _ _ i _ (by simp [he]) (fun j w' hj hij hSj => ?_)
    simp only [List.getElem?_map, Option.map_eq_some_iff] at hj
    obtain ⟨f, hf, rfl⟩ := hj
    by_cases h1 : e.sl st.env.length x = none
    ·exact .inl h1
    ·right
     cases h2 : f.sl st.env.length x with
     | none => rfl
     | some _ =>
      unfold Ent.sl at h1 h2
      split at h1
      ·rename_i h3
       split at h2
       ·rename_i h4
        have := slot x (.inr (by rw [← hs.dst]; exact h3.1)) j f hf (by omega) h4.1
        rw [hSj, decide_eq_false (by omega)] at this; cases this
       ·cases h2
      ·exact absurd rfl h1
   have nextG : ∀ r, G (sOf (listed.setIfInBounds i true)) r = (e.rw r).getD (G (sOf listed) r) := by
    intro r
    have e1 : G (sOf (listed.setIfInBounds i true)) r = G (cA (sOf listed) i) r := iY r _ 0 _ _ _ _ (fun j w' hj _ => by
     rw [Nat.zero_add]; exact hS' j (by have : j < pre.length := (by rw [← hN]; simpa using (List.getElem?_eq_some_iff.1 hj).1); omega)) rfl
    rw [e1]
    refine yY r _ _ _ i _ (by simp [he]) (fun j w' hj hij hSj => ?_)
    simp only [List.getElem?_map, Option.map_eq_some_iff] at hj
    obtain ⟨f, hf, rfl⟩ := hj
    by_cases h1 : e.rw r = none
    ·exact .inl h1
    ·right
     cases h2 : f.rw r with
     | none => rfl
     | some _ =>
      have := root r (.inr h1) j f hf (by omega) (by rw [h2]; simp)
      rw [hSj, decide_eq_false (by omega)] at this; cases this
   have fin : ∀ (a' : Act) (w' : World) (own' : Nat → Option Lab) (v : Value), a' = a.put o.dst v → Sim w0 (fun i => envS.getD i .undef) (fun r => (e.rw r).getD (G (sOf listed) r)) (fun i => a.tmps.getD i Go.undef) w' own' →
     Mt w' (okb w' own') own' (fun r => (e.rw r).getD (G (sOf listed) r)) e.val v →
     wpAny P .any ops (fun e a' w' => ∃ st', Fits w0 st' a' w' ∧ Q e st') fuel (listed.setIfInBounds i true) a' w' := by
    intro a' w' own' v ha' hsim hmt
    subst ha'
    have hG : G (sOf (listed.setIfInBounds i true)) = (fun r => (e.rw r).getD (G (sOf listed) r)) := funext nextG
    refine ih _ _ _ (by simpa using hsz) ?_ (by rw [hS' pre.length (by omega)]; unfold cA; simp only [hlast, Bool.or_false, beq_eq_false_iff_ne]; omega) (fun k o' hk ho' e' he' hb => ?_) ⟨own', setSlot envS o.dst e.val, by simpa using k1, by simpa using k2, by simpa using k3, fun x => ?_, ?_⟩
    ·have hc : (List.range ops.size).countP (fun k => !(listed.setIfInBounds i true).getD k true) < (List.range ops.size).countP (fun k => !listed.getD k true) := by
      refine M0 _ _ _ (fun k hk hq => ?_) ⟨i, List.mem_range.2 hlt, by rw [hun]; rfl, ?_⟩
      ·by_cases hki : k = i
       ·subst hki; rw [hun]; rfl
       ·have := getD_set_ne (listed := listed) true (Ne.symm hki)
        rw [this] at hq; exact hq
      ·simp only [Array.getD_eq_getD_getElem?]
       rw [Array.getElem?_setIfInBounds_self_of_lt (by omega)]; rfl
     omega
    ·have hkl := (Array.getElem?_eq_some_iff.1 ho').1
     rw [hS' k hkl] at hk
     have h1 := hcl' k o' hk (by simpa using ho') e' he' hb
     have hlt' := (hsl1 k o' ho').1 e' he' hb
     rw [hS' e'.on (by omega)]; exact h1
    ·rw [nextF x, ← k4 x, ← hs.dst, Ent.sl_apply e envS e.val rfl x, k3]
    ·rw [hG]
     exact hsim.putSlot k2 o.dst hmt
   have hgc := W1 (ops := ops) (o := o) (env := s.env) (env' := envS) sameSlot
   unfold wpOp
   simp only [ho]
   rcases hs.step with ⟨hg, hev, hn⟩ | ⟨hg, hv, hres⟩
   ·rw [← hgc] at hg
    rw [oG k5 hg]
    simp only [if_true]
    refine .inl ?_
    have hev' := hev envS (G (sOf listed)) (fun x hx => uP (fun t ht => by
     refine sameSlot t ?_
     subst ht
     unfold Oper.looksAt
     exact List.mem_append.2 (.inl (List.mem_filterMap.2 ⟨.tmp t, by simpa using hx, rfl⟩)))) sameRoot
    refine tB hT k5 (fun res hres r h1 h2 => ?_) (fun res v w' own' hres hsim hmt => ?_) hev'
    ·subst hres
     have hrn : e.rw r ≠ none := by unfold Ent.rw; rw [if_pos ⟨h1, h2⟩]; simp
     have hnone : aQ st.rt r = none := oU (by have := hs.low; omega)
     show fl (es.map Ent.rw) 0 (sOf listed) (aQ st.rt) r = none
     rw [← hnone]
     refine oO r _ _ _ (fun j w' hj hw => ?_)
     simp only [List.getElem?_map, Option.map_eq_some_iff] at hj
     obtain ⟨f, hf, rfl⟩ := hj
     by_cases hji : j = i
     ·subst hji; exact hSi
     ·have := root r (.inr hrn) j f hf hji hw
      rw [this]
      by_cases hlt' : j < i
      ·have := hs.ahead j f hlt' hf r (Ent.rw_mem hw); omega
      ·exact decide_eq_false hlt'
    ·subst hres
     have happ : cS (G (sOf listed)) e.n e.res = (fun r => (e.rw r).getD (G (sOf listed) r)) := funext (Ent.rw_apply e _)
     rw [happ] at hsim hmt
     exact fin _ w' own' v rfl hsim (hn v w' _ _ _ hmt)
   ·rw [← hgc] at hg
    rw [oG k5 hg]
    simp only [Bool.false_eq_true, if_false]
    have hnone : (fun r => (e.rw r).getD (G (sOf listed) r)) = G (sOf listed) := by
     funext r
     have : e.rw r = none := by unfold Ent.rw; rw [hres]; rw [if_neg (by simp), if_neg (by simp)]
     rw [this]; rfl
    refine fin _ w own Go.undef rfl (by rw [hnone]; exact k5) (by rw [hv]; exact .sh _ _ (.lit _))
 refine wp_region_any hm (key ops.size (Array.replicate ops.size false) a _ (by simp) ?_ (by simp only [sOf, Array.getD_eq_getD_getElem?, Array.getElem?_replicate]; split <;> rfl) (fun k o hk => ?_) ?_)
 ·exact Nat.le_trans List.countP_le_length (by simp)
 ·exfalso
  simp only [sOf, Array.getD_eq_getD_getElem?, Array.getElem?_replicate] at hk
  split at hk <;> simp at hk
 ·have hfalse : ∀ k, sOf (Array.replicate ops.size false) k = false := fun k => by
   simp only [sOf, Array.getD_eq_getD_getElem?, Array.getElem?_replicate]
   split <;> rfl
  have e2 : G (sOf (Array.replicate ops.size false)) = aQ st.rt := by
   funext r; exact oO r (es.map Ent.rw) (sOf (Array.replicate ops.size false)) (aQ st.rt) (fun j w _ _ => hfalse j)
  refine ⟨own, st.env, hd, hl, rfl, fun x => (oO x (es.map (Ent.sl st.env.length)) (sOf (Array.replicate ops.size false)) (fun x => st.env.getD x .undef) (fun j w _ _ => hfalse j)).symm, ?_⟩
  rw [e2]
  exact hs.more ((Below.refl _ _).drew)
end
end Go.Vm
namespace Go.Vm
open Go Go.RowKit
inductive RefsIn (G : Nat → List Nat → Prop) : D → Prop
 | undef : RefsIn G .undef
 | kb (b : Bool) : RefsIn G (.kb b)
 | lit (v : Value) : RefsIn G (.lit v)
 | list (o : Bool) (sz : Nat) (cs : List D) : RefsIn G (.list o sz cs)
 | cptr (cs : List D) (off : Nat) : RefsIn G (.cptr cs off)
 | full (sz : Nat) (cs : List D) : RefsIn G (.full sz cs)
 | agg (ds : List D) (h : ∀ d ∈ ds, RefsIn G d) : RefsIn G (.agg ds)
 | tup (ds : List D) (h : ∀ d ∈ ds, RefsIn G d) : RefsIn G (.tup ds)
 | fn (f : Fn) (fs cs : List D) (hf : ∀ d ∈ fs, RefsIn G d) (hc : ∀ d ∈ cs, RefsIn G d) : RefsIn G (.fn f fs cs)
 | ref (r : Nat) (p : List Nat) (sz off m : Nat) (h : G r p) : RefsIn G (.ref r p sz off m)
 | ptr (r : Nat) (p : List Nat) (off : Nat) (h : G r p) : RefsIn G (.ptr r p off)
theorem RefsIn.mono {G G' : Nat → List Nat → Prop} (hg : ∀ r p, G r p → G' r p) {d : D} (h : RefsIn G d) : RefsIn G' d := by
 induction h with
 | undef => exact .undef
 | kb b => exact .kb b
 | lit v => exact .lit v
 | list o sz cs => exact .list o sz cs
 | cptr cs off => exact .cptr cs off
 | full sz cs => exact .full sz cs
 | agg ds h ih => exact .agg ds ih
 | tup ds h ih => exact .tup ds ih
 | fn f fs cs hf hc ihf ihc => exact .fn f fs cs ihf ihc
 | ref r p sz off m h => exact .ref r p sz off m (hg r p h)
 | ptr r p off h => exact .ptr r p off (hg r p h)
theorem RefsIn.ofBelow {n : Nat} {d : D} (h : BelowD n d) : RefsIn (fun r _ => r < n) d := by
 induction h with
 | undef => exact .undef
 | kb b => exact .kb b
 | lit v => exact .lit v
 | list o sz cs => exact .list o sz cs
 | cptr cs off => exact .cptr cs off
 | full sz cs => exact .full sz cs
 | agg ds h ih => exact .agg ds ih
 | tup ds h ih => exact .tup ds ih
 | fn f fs cs hf hc ihf ihc => exact .fn f fs cs ihf ihc
 | ref r p sz off m h => exact .ref r p sz off m h
 | ptr r p off h => exact .ptr r p off h
theorem RefsIn.shA {r : Nat} {d : D} (h : shA r d = true) : RefsIn (fun q p => q ≠ r ∨ p = []) d := by
 have key : ∀ q p, (!Nat.beq r q || hU p) = true → q ≠ r ∨ p = [] := fun q p h => by
  cases p with
  | nil => exact .inr rfl
  | cons a p =>
   refine .inl (fun e => ?_)
   subst e
   simp [hU, Nat.beq_eq] at h
 cases d with
 | undef => exact .undef
 | kb b => exact .kb b
 | lit v => exact .lit v
 | list o sz cs => exact .list o sz cs
 | cptr cs off => exact .cptr cs off
 | full sz cs => exact .full sz cs
 | agg ds => simp [Vm.shA] at h
 | tup ds => simp [Vm.shA] at h
 | fn f fs cs => simp [Vm.shA] at h
 | ref q p sz off m => exact .ref q p sz off m (key q p h)
 | ptr q p off => exact .ptr q p off (key q p h)
theorem RefsIn.shB {r : Nat} {d : D} (h : shB r d = true) : RefsIn (fun q p => q ≠ r ∨ p = []) d := by
 cases d with
 | undef => exact .undef
 | kb b => exact .kb b
 | lit v => exact .lit v
 | list o sz cs => exact .list o sz cs
 | cptr cs off => exact .cptr cs off
 | full sz cs => exact .full sz cs
 | agg ds => exact .agg ds (fun d hd => RefsIn.shA (List.all_eq_true.1 h d hd))
 | tup ds => exact .tup ds (fun d hd => RefsIn.shA (List.all_eq_true.1 h d hd))
 | fn f fs cs =>
  simp only [Vm.shB, Bool.and_eq_true] at h
  exact .fn f fs cs (fun d hd => RefsIn.shA (List.all_eq_true.1 h.1 d hd)) (fun d hd => RefsIn.shA (List.all_eq_true.1 h.2 d hd))
 | ref q p sz off m => exact RefsIn.shA h
 | ptr q p off => exact RefsIn.shA h
section
variable {w : World} {own own' : Nat → Option Lab} {rt rt' : RT}
theorem wK (hok : ∀ b, own b = none → own' b = none) {b : Nat} (h : okb w own b) : okb w own' b := ⟨hok b h.1, h.2⟩
theorem Mt.re {G : Nat → List Nat → Prop} (hok : ∀ b, own b = none → own' b = none)
  (hG : ∀ r p, G r p → rt r ≠ none → rt' r ≠ none ∧ ∀ R', rt' r = some (some R') → ∃ R, rt r = some (some R) ∧ (Vp R p → Vp R' p) ∧ ∀ b, own b = some (r, p) ↔ own' b = some (r, p))
  {d : D} {v : Value} (h : Mt w (okb w own) own rt d v) (hd : RefsIn G d) : Mt w (okb w own') own' rt' d v := by
 induction h with
 | undef v => exact .undef v
 | sh d v h => exact .sh d v (h.frame (fun b hb => ⟨wK hok hb, rfl⟩))
 | ref r p sz off n v h0 h1 h =>
  cases hd with
  | ref _ _ _ _ _ hg =>
  obtain ⟨k1, k2⟩ := hG r p hg h0
  refine .ref r p sz off n v k1 h1 (fun R' hR' => ?_)
  obtain ⟨R, hR, hv, hl⟩ := k2 R' hR'
  obtain ⟨hp, h⟩ := h R hR
  refine ⟨hv hp, ?_⟩
  rcases h with ⟨b, arr, e, cap, o, hb, hw, hv, hnc, hc, ho⟩ | ⟨hv, ho, hn, hb⟩
  ·exact .inl ⟨b, arr, e, cap, o, (hl b).1 hb, hw, hv, hnc, hc, ho⟩
  ·exact .inr ⟨hv, ho, hn, fun b hb' => hb b ((hl b).2 hb')⟩
 | ptr r p off v h0 h1 h =>
  cases hd with
  | ptr _ _ _ hg =>
  obtain ⟨k1, k2⟩ := hG r p hg h0
  refine .ptr r p off v k1 h1 (fun R' hR' => ?_)
  obtain ⟨R, hR, hv, hl⟩ := k2 R' hR'
  obtain ⟨hp, b, arr, e, hb, hw, hvv⟩ := h R hR
  exact ⟨hv hp, b, arr, e, (hl b).1 hb, hw, hvv⟩
 | agg ds vs hl hr ih =>
  cases hd with
  | agg _ hg => exact .agg ds vs hl (fun i d v h1 h2 => ih i d v h1 h2 (hg d (List.mem_of_getElem? h1)))
 | tup ds vs hl hr ih =>
  cases hd with
  | tup _ hg => exact .tup ds vs hl (fun i d v h1 h2 => ih i d v h1 h2 (hg d (List.mem_of_getElem? h1)))
 | fn f fs cs first caps h1 h2 hf hr ihf ih =>
  cases hd with
  | fn _ _ _ hg1 hg2 => exact .fn f fs cs first caps h1 h2 (fun i d v h1 h2 => ihf i d v h1 h2 (hg1 d (List.mem_of_getElem? h1))) (fun i d v h1 h2 => ih i d v h1 h2 (hg2 d (List.mem_of_getElem? h1)))
end
def O7 : D → List D
 | .list _ _ cs => cs
 | _ => []
def rF (n0 : Nat) (cs : List D) : List D := (List.range cs.length).map fun i => .ref (n0 + i) [] 1 0 (O7 (cs.getD i .undef)).length
def jZ (rt : RT) (r n0 : Nat) (sz : Nat) (cs : List D) : RT := fun q =>
 if q = r then some (some ⟨true, sz, rF n0 cs⟩) else if n0 ≤ q ∧ q < n0 + cs.length then some (some ⟨false, 1, O7 (cs.getD (q - n0) .undef)⟩) else rt q
def fY (own : Nat → Option Lab) (r n0 n : Nat) : Nat → Option Lab := fun b => match own b with
 | some (q, p) => if q = r then (match p with
  | [] => some (r, [])
  | i :: p => if i < n then some (n0 + i, p) else some (r, i :: p)) else some (q, p)
 | none => none
theorem Aq8 {own : Nat → Option Lab} {r n0 n b : Nat} : fY own r n0 n b = none ↔ own b = none := by
 unfold fY
 cases own b with
 | none => simp
 | some l =>
  obtain ⟨q, p⟩ := l
  simp only
  constructor
  ·intro h
   split at h
   ·cases p with
    | nil => simp at h
    | cons i p => simp only at h; split at h <;> simp at h
   ·simp at h
  ·intro h; cases h
theorem oL {own : Nat → Option Lab} {r n0 n b q : Nat} {p : List Nat} (hr : r < n0) (hq : q < n0) (hp : q ≠ r ∨ p = []) (hown : ∀ b q p, own b = some (q, p) → q < n0) : own b = some (q, p) ↔ fY own r n0 n b = some (q, p) := by
 unfold fY
 cases h : own b with
 | none => simp
 | some l =>
  obtain ⟨q', p'⟩ := l
  simp only
  by_cases e : q' = r
  ·rw [if_pos e]
   cases p' with
   | nil => simp only [Option.some.injEq, Prod.mk.injEq]; rw [e]
   | cons i p' =>
    simp only
    constructor
    ·intro h1
     simp only [Option.some.injEq, Prod.mk.injEq] at h1
     rcases hp with h2 | h2
     ·exact absurd (h1.1.symm.trans e) h2
     ·rw [h2] at h1; simp at h1
    ·split
     ·intro h1
      simp only [Option.some.injEq, Prod.mk.injEq] at h1
      omega
     ·intro h1
      simp only [Option.some.injEq, Prod.mk.injEq] at h1
      rcases hp with h2 | h2
      ·exact absurd h1.1.symm h2
      ·rw [h2] at h1; simp at h1
  ·rw [if_neg e]
theorem nW {own : Nat → Option Lab} {r n0 n b i : Nat} {p : List Nat} (hr : r < n0) (hi : i < n) (hown : ∀ b q p, own b = some (q, p) → q < n0) : fY own r n0 n b = some (n0 + i, p) ↔ own b = some (r, i :: p) := by
 unfold fY
 cases h : own b with
 | none => simp
 | some l =>
  obtain ⟨q', p'⟩ := l
  have hq := hown b q' p' h
  simp only
  by_cases e : q' = r
  ·rw [if_pos e]
   cases p' with
   | nil => simp; omega
   | cons j p' =>
    simp only
    split
    ·simp only [Option.some.injEq, Prod.mk.injEq, List.cons.injEq]
     exact ⟨fun h => ⟨e, by omega, h.2⟩, fun h => ⟨by omega, h.2.2⟩⟩
    ·simp only [Option.some.injEq, Prod.mk.injEq, List.cons.injEq]
     exact ⟨fun h => by omega, fun h => by omega⟩
  ·rw [if_neg e]
   simp only [Option.some.injEq, Prod.mk.injEq]
   omega
section
variable {w0 : Base} {env : Nat → D} {rt : RT} {tm : Nat → Value} {w : World} {own : Nat → Option Lab}
theorem Sim.explode (hs : Sim w0 env rt tm w own) {r n0 : Nat} {R : Root} (hR : rt r = some (some R)) (hbox : R.box = false) (hn0 : ∀ q, n0 ≤ q → rt q = none) (hcs : ∀ d ∈ R.cs, ∃ c, d = .list true 1 c) (hne : R.cs ≠ [])
  (henv : ∀ i, shB r (env i) = true) (hkeep : w0.keep ≤ r) (hboxes : ∀ r1 R1, rt r1 = some (some R1) → R1.box = true → ∀ d ∈ R1.cs, shB r d = true) :
  Sim w0 env (jZ rt r n0 R.sz R.cs) tm w (fY own r n0 R.cs.length) := by
 have hr : r < n0 := Nat.lt_of_not_le (fun h => by rw [hn0 r h] at hR; cases hR)
 have hown : ∀ b q p, own b = some (q, p) → q < n0 := fun b q p h => Nat.lt_of_not_le (fun h2 => (hs.lab b q p h).2.2 (hn0 q h2))
 have hok : ∀ b, own b = none → fY own r n0 R.cs.length b = none := fun b h => Aq8.2 h
 have hself : jZ rt r n0 R.sz R.cs r = some (some ⟨true, R.sz, rF n0 R.cs⟩) := by unfold jZ; rw [if_pos rfl]
 have hnew : ∀ i, i < R.cs.length → jZ rt r n0 R.sz R.cs (n0 + i) = some (some ⟨false, 1, O7 (R.cs.getD i .undef)⟩) := fun i hi => by
  unfold jZ; rw [if_neg (by omega), if_pos ⟨by omega, by omega⟩, show n0 + i - n0 = i by omega]
 have hold : ∀ q, q ≠ r → q < n0 → jZ rt r n0 R.sz R.cs q = rt q := fun q h1 h2 => by unfold jZ; rw [if_neg h1, if_neg (by omega)]
 have hG : ∀ q p, (q ≠ r ∨ p = []) → rt q ≠ none → jZ rt r n0 R.sz R.cs q ≠ none ∧ ∀ R', jZ rt r n0 R.sz R.cs q = some (some R') → ∃ R1, rt q = some (some R1) ∧ (Vp R1 p → Vp R' p) ∧ ∀ b, own b = some (q, p) ↔ fY own r n0 R.cs.length b = some (q, p) := by
  intro q p hqp h0
  have hq : q < n0 := Nat.lt_of_not_le (fun h => h0 (hn0 q h))
  by_cases e : q = r
  ·subst e
   refine ⟨by rw [hself]; simp, fun R' hR' => ⟨R, hR, fun _ => ?_, fun b => oL hr hq hqp hown⟩⟩
   rcases hqp with h | h
   ·exact absurd rfl h
   ·exact .inl h
  ·refine ⟨by rw [hold q e hq]; exact h0, fun R' hR' => ?_⟩
   rw [hold q e hq] at hR'
   exact ⟨R', hR', id, fun b => oL hr hq hqp hown⟩
 have hcell : ∀ (i : Nat) d v, R.cs[i]? = some d → Tr w (okb w own) own (r, [i]) d v → ∃ c, d = .list true 1 c ∧ mF w (fY own r n0 R.cs.length) (n0 + i) [] 1 0 c.length v ∧ v.oneCell' = true ∧ kE w (okb w (fY own r n0 R.cs.length)) (fY own r n0 R.cs.length) (jZ rt r n0 R.sz R.cs) (n0 + i) ⟨false, 1, c⟩ := by
  intro i d v hd ht
  have hi : i < R.cs.length := (List.getElem?_eq_some_iff.1 hd).1
  obtain ⟨c, rfl⟩ := hcs d (List.mem_of_getElem? hd)
  refine ⟨c, rfl, ?_⟩
  cases ht with
  | sh _ _ _ ho h => simp [D.notOwn] at ho
  | nil _ _ hn =>
   refine ⟨.inr ⟨rfl, rfl, rfl, fun b hb => hn b ((nW hr hi hown).1 hb)⟩, rfl, .inr ⟨rfl, rfl, fun b hb => hn b ((nW hr hi hown).1 hb)⟩⟩
  | own _ _ _ b len cap arr e hz hl hlc hb hw hc hsz hrr =>
   refine ⟨.inl ⟨b, arr, e, cap, 0, (nW hr hi hown).2 hb, hw, by rw [← hl, Nat.mul_one], by omega, by omega, fun _ => by simp⟩, rfl, .inl ⟨b, arr, e, (nW hr hi hown).2 hb, hw, hsz, fun j d v hj hv => ?_⟩⟩
   unfold bX
   rw [if_neg (by simp)]
   refine (hrr j d v hj hv).relab (n0 + i, [j]) (fun b hb => ⟨wK hok hb, rfl⟩) (fun b q hq => ⟨(nW hr hi hown).2 hq, rfl⟩) (fun b q hq => (nW hr hi hown).1 hq)
 refine ⟨hs.below, fun i => (hs.env i).re hok hG (RefsIn.shB (henv i)), fun q R1 h1 => ?_, fun b q p h => ?_, fun b hb => ?_, fun b b' l h h' => ?_, fun d v hp => ?_⟩
 ·by_cases e : q = r
  ·subst e
   rw [hself] at h1; cases h1
   rcases hs.roots q R hR with ⟨b, arr, e, k1, k2, k3, k4⟩ | ⟨k1, k2, k3⟩
   ·refine .inl ⟨b, arr, e, (oL hr hr (.inr rfl) hown).1 k1, k2, by simpa [rF] using k3, fun i d v hi hv => ?_⟩
    unfold bX
    rw [if_pos rfl]
    have hi2 : i < R.cs.length := by have := (List.getElem?_eq_some_iff.1 hi).1; simpa [rF] using this
    have hd : R.cs[i]? = some R.cs[i] := List.getElem?_eq_getElem hi2
    have ht := k4 i _ v hd hv
    unfold bX at ht
    rw [if_neg (by simp [hbox])] at ht
    obtain ⟨c, hc, hro, hone, -⟩ := hcell i _ v hd ht
    simp only [rF, List.getElem?_map, List.getElem?_range hi2, Option.map_some, Option.some.injEq] at hi
    subst hi
    rw [List.getD_eq_getElem?_getD, hd, Option.getD_some, hc]
    refine .ref _ _ _ _ _ _ (by rw [hnew i hi2]; simp) hone (fun R' hR' => ⟨.inl rfl, hro⟩)
   ·exact absurd k2 hne
  ·by_cases e2 : n0 ≤ q ∧ q < n0 + R.cs.length
   ·obtain ⟨i, rfl⟩ : ∃ i, q = n0 + i := ⟨q - n0, by omega⟩
    have hi : i < R.cs.length := by omega
    rw [hnew i hi] at h1; cases h1
    have hd : R.cs[i]? = some R.cs[i] := List.getElem?_eq_getElem hi
    rcases hs.roots r R hR with ⟨b, arr, e, k1, k2, k3, k4⟩ | ⟨k1, k2, k3⟩
    ·have hv : arr[i]? = some arr[i] := Array.getElem?_eq_getElem (by omega)
     have ht := k4 i _ _ hd hv
     unfold bX at ht
     rw [if_neg (by simp [hbox])] at ht
     obtain ⟨c, hc, -, -, hroot⟩ := hcell i _ _ hd ht
     rw [List.getD_eq_getElem?_getD, hd, Option.getD_some, hc]
     exact hroot
    ·exact absurd k2 hne
   ·have h1' : rt q = some (some R1) := by
     unfold jZ at h1; rwa [if_neg e, if_neg e2] at h1
    have hq : q < n0 := Nat.lt_of_not_le (fun h => by rw [hn0 q h] at h1'; cases h1')
    rcases hs.roots q R1 h1' with ⟨b, arr, e1, k1, k2, k3, k4⟩ | ⟨k1, k2, k3⟩
    ·refine .inl ⟨b, arr, e1, (oL hr hq (.inl e) hown).1 k1, k2, k3, fun i d v hi hv => ?_⟩
     have hc := k4 i d v hi hv
     unfold bX at hc ⊢
     by_cases hb : R1.box = true
     ·rw [if_pos hb] at hc ⊢
      exact hc.re hok hG (RefsIn.shB (hboxes q R1 h1' hb d (List.mem_of_getElem? hi)))
     ·rw [if_neg hb] at hc ⊢
      exact hc.frame (fun b hb => ⟨wK hok hb, rfl⟩) (fun b p hp => ⟨(oL hr hq (.inl e) hown).1 hp, rfl⟩) (fun b p hp => (oL hr hq (.inl e) hown).2 hp)
    ·exact .inr ⟨k1, k2, fun b hb => k3 b ((oL hr hq (.inl e) hown).2 hb)⟩
 ·by_cases e2 : n0 ≤ q
  ·have hi : ∃ i, q = n0 + i ∧ i < R.cs.length := by
    unfold fY at h
    cases ho : own b with
    | none => rw [ho] at h; cases h
    | some l =>
     obtain ⟨q', p'⟩ := l
     have hq' := hown b q' p' ho
     rw [ho] at h
     simp only at h
     split at h
     ·cases p' with
      | nil => simp only [Option.some.injEq, Prod.mk.injEq] at h; omega
      | cons j p' =>
       simp only at h
       split at h
       ·simp only [Option.some.injEq, Prod.mk.injEq] at h
        exact ⟨j, h.1.symm, by assumption⟩
       ·simp only [Option.some.injEq, Prod.mk.injEq] at h; omega
     ·simp only [Option.some.injEq, Prod.mk.injEq] at h; omega
   obtain ⟨i, rfl, hi⟩ := hi
   have h2 := (nW hr hi hown).1 h
   obtain ⟨x1, x2, x3⟩ := hs.lab b r _ h2
   exact ⟨fun hp => (by have := x1 hp; rw [hR] at this; cases this), x2, by rw [hnew i hi]; simp⟩
  ·have hq : q < n0 := by omega
   have h2 : ∃ p', own b = some (q, p') := by
    unfold fY at h
    cases ho : own b with
    | none => rw [ho] at h; cases h
    | some l =>
     obtain ⟨q', p'⟩ := l
     rw [ho] at h
     simp only at h
     split at h
     ·rename_i e
      cases p' with
      | nil => simp only [Option.some.injEq, Prod.mk.injEq] at h; exact ⟨[], by rw [e, h.1]⟩
      | cons j p' =>
       simp only at h
       split at h
       ·simp only [Option.some.injEq, Prod.mk.injEq] at h; omega
       ·simp only [Option.some.injEq, Prod.mk.injEq] at h; exact ⟨j :: p', by rw [e, h.1]⟩
     ·simp only [Option.some.injEq, Prod.mk.injEq] at h; exact ⟨p', by rw [h.1]⟩
   obtain ⟨p', h2⟩ := h2
   obtain ⟨x1, x2, x3⟩ := hs.lab b q p' h2
   by_cases e : q = r
   ·subst e
    exact ⟨fun hp => (by have := x1 hp; rw [hR] at this; cases this), x2, by rw [hself]; simp⟩
   ·exact ⟨fun hp => by rw [hold q e hq]; exact x1 hp, x2, by rw [hold q e hq]; exact x3⟩
 ·obtain ⟨k1, k2⟩ := hs.hidl b hb
  have hne' : (w0.hl b).1 ≠ r := fun e => by rw [e, hR] at k2; cases k2
  have hq : (w0.hl b).1 < n0 := by have := w0.hlk b hb; omega
  exact ⟨(oL (p := (w0.hl b).2) hr hq (.inl hne') hown).1 k1, by rw [hold _ hne' hq]; exact k2⟩
 ·obtain ⟨q, p⟩ := l
  by_cases e2 : n0 ≤ q
  ·have inv : ∀ b, fY own r n0 R.cs.length b = some (q, p) → ∃ i, q = n0 + i ∧ i < R.cs.length := fun b h => by
    unfold fY at h
    cases ho : own b with
    | none => rw [ho] at h; cases h
    | some l =>
     obtain ⟨q', p'⟩ := l
     have hq' := hown b q' p' ho
     rw [ho] at h
     simp only at h
     split at h
     ·cases p' with
      | nil => simp only [Option.some.injEq, Prod.mk.injEq] at h; omega
      | cons j p' =>
       simp only at h
       split at h
       ·simp only [Option.some.injEq, Prod.mk.injEq] at h
        exact ⟨j, h.1.symm, by assumption⟩
       ·simp only [Option.some.injEq, Prod.mk.injEq] at h; omega
     ·simp only [Option.some.injEq, Prod.mk.injEq] at h; omega
   obtain ⟨i, rfl, hi⟩ := inv b h
   exact hs.inj b b' _ ((nW hr hi hown).1 h) ((nW hr hi hown).1 h')
  ·have hq : q < n0 := by omega
   have inv : ∀ b, fY own r n0 R.cs.length b = some (q, p) → own b = some (q, p) := fun b h => by
    unfold fY at h
    cases ho : own b with
    | none => rw [ho] at h; cases h
    | some l =>
     obtain ⟨q', p'⟩ := l
     rw [ho] at h
     simp only at h
     split at h
     ·rename_i e
      cases p' with
      | nil => simp only [Option.some.injEq, Prod.mk.injEq] at h; rw [e, h.1, ← h.2]
      | cons j p' =>
       simp only at h
       split at h
       ·simp only [Option.some.injEq, Prod.mk.injEq] at h; omega
       ·simp only [Option.some.injEq, Prod.mk.injEq] at h; rw [e, h.1, ← h.2]
     ·exact h
   exact hs.inj b b' _ (inv b h) (inv b' h')
 ·exact (hs.susp d v hp).re hok hG ((RefsIn.ofBelow (w0.hk d v hp)).mono (fun q _ hq => .inl (by omega)))
end
end Go.Vm
namespace Go.Vm
open Go Go.RowKit
def nC (rt : RT) (r n0 n : Nat) (c : Nat → List D) : RT := fun q =>
 if q = r then some (some ⟨false, 1, (List.range n).map fun i => .list true 1 (c i)⟩) else if n0 ≤ q then none else rt q
def hI (own : Nat → Option Lab) (r n0 : Nat) (j : Nat → Nat) : Nat → Option Lab := fun b => match own b with
 | some (q, p) => if q = r then (match p with
  | [] => some (r, [])
  | _ :: _ => none) else if n0 ≤ q then some (r, j q :: p) else some (q, p)
 | none => none
theorem oN {own : Nat → Option Lab} {r n0 b q : Nat} {j : Nat → Nat} {p : List Nat} (hq : q < n0) (hp : q ≠ r ∨ p = []) : own b = some (q, p) ↔ hI own r n0 j b = some (q, p) := by
 unfold hI
 cases h : own b with
 | none => simp
 | some l =>
  obtain ⟨q', p'⟩ := l
  simp only
  by_cases e : q' = r
  ·rw [if_pos e]
   cases p' with
   | nil => simp only [Option.some.injEq, Prod.mk.injEq]; rw [e]
   | cons i p' =>
    simp only
    constructor
    ·intro h1
     simp only [Option.some.injEq, Prod.mk.injEq] at h1
     rcases hp with h2 | h2
     ·exact absurd (h1.1.symm.trans e) h2
     ·rw [h2] at h1; simp at h1
    ·intro h1; cases h1
  ·rw [if_neg e]
   split
   ·simp only [Option.some.injEq, Prod.mk.injEq]
    constructor
    ·intro h1; omega
    ·intro h1
     rcases hp with h2 | h2
     ·exact absurd h1.1.symm h2
     ·rw [h2] at h1; simp at h1
   ·rfl
theorem An1 {own : Nat → Option Lab} {r n0 b q : Nat} {j : Nat → Nat} {p : List Nat} {i : Nat} (h : hI own r n0 j b = some (q, i :: p)) (hq : q = r) : ∃ q', n0 ≤ q' ∧ own b = some (q', p) ∧ j q' = i ∧ q' ≠ r := by
 unfold hI at h
 cases ho : own b with
 | none => rw [ho] at h; cases h
 | some l =>
  obtain ⟨q', p'⟩ := l
  rw [ho] at h
  simp only at h
  split at h
  ·cases p' <;> simp at h
  ·rename_i e
   split at h
   ·simp only [Option.some.injEq, Prod.mk.injEq, List.cons.injEq] at h
    exact ⟨q', by assumption, by rw [h.2.2], h.2.1, e⟩
   ·simp only [Option.some.injEq, Prod.mk.injEq] at h
    exact absurd (h.1.trans hq) e
theorem N0 {own : Nat → Option Lab} {r n0 b q : Nat} {j : Nat → Nat} {p : List Nat} (h : hI own r n0 j b = some (q, p)) : (own b = some (q, p) ∧ (q ≠ r ∨ p = []) ∧ (q = r ∨ q < n0)) ∨ ∃ q' p', q = r ∧ p = j q' :: p' ∧ own b = some (q', p') ∧ n0 ≤ q' ∧ q' ≠ r := by
 unfold hI at h
 cases ho : own b with
 | none => rw [ho] at h; cases h
 | some l =>
  obtain ⟨q', p'⟩ := l
  rw [ho] at h
  simp only at h
  split at h
  ·rename_i e
   cases p' with
   | nil => simp only [Option.some.injEq, Prod.mk.injEq] at h; exact .inl ⟨by rw [e, h.1, ← h.2], .inr h.2.symm, .inl h.1.symm⟩
   | cons i p' => simp at h
  ·rename_i e
   split at h
   ·simp only [Option.some.injEq, Prod.mk.injEq] at h
    exact .inr ⟨q', p', h.1.symm, h.2.symm, rfl, by assumption, e⟩
   ·simp only [Option.some.injEq, Prod.mk.injEq] at h
    exact .inl ⟨by rw [h.1, h.2], .inl (fun e2 => e (h.1.trans e2)), .inr (by omega)⟩
theorem Ah4 {own : Nat → Option Lab} {r n0 b q : Nat} {j : Nat → Nat} {p : List Nat} (h : own b = some (q, p)) (hq : n0 ≤ q) (hr : r < n0) : hI own r n0 j b = some (r, j q :: p) := by
 unfold hI
 rw [h]
 simp only
 rw [if_neg (by omega), if_pos hq]
section
variable {w0 : Base} {env : Nat → D} {rt : RT} {tm : Nat → Value} {w : World} {own : Nat → Option Lab}
theorem Sim.collapse (hs : Sim w0 env rt tm w own) {r n0 n : Nat} {cs : List D} {k j : Nat → Nat} {c : Nat → List D} (hR : rt r = some (some ⟨true, 1, cs⟩)) (hr : r < n0) (hl : cs.length = n)
  (hcs : ∀ i, i < n → cs[i]? = some (.ref (k i) [] 1 0 (c i).length)) (hk : ∀ i, i < n → n0 ≤ k i ∧ rt (k i) = some (some ⟨false, 1, c i⟩) ∧ j (k i) = i)
  (hj : ∀ q, n0 ≤ q → rt q ≠ none → j q < n ∧ k (j q) = q)
  (henv : ∀ i, RefsIn (fun q p => q < n0 ∧ (q ≠ r ∨ p = [])) (env i)) (hkeep : w0.keep ≤ r) (hboxes : ∀ r1 R1, rt r1 = some (some R1) → R1.box = true → r1 < n0 → r1 ≠ r → ∀ d ∈ R1.cs, RefsIn (fun q p => q < n0 ∧ (q ≠ r ∨ p = [])) d) :
  Sim w0 env (nC rt r n0 n c) tm w (hI own r n0 j) := by
 have hok : ∀ b, own b = none → hI own r n0 j b = none := fun b h => by unfold hI; rw [h]
 have hself : nC rt r n0 n c r = some (some ⟨false, 1, (List.range n).map fun i => .list true 1 (c i)⟩) := by unfold nC; rw [if_pos rfl]
 have hold : ∀ q, q ≠ r → q < n0 → nC rt r n0 n c q = rt q := fun q h1 h2 => by unfold nC; rw [if_neg h1, if_neg (by omega)]
 have hG : ∀ q p, (q < n0 ∧ (q ≠ r ∨ p = [])) → rt q ≠ none → nC rt r n0 n c q ≠ none ∧ ∀ R', nC rt r n0 n c q = some (some R') → ∃ R1, rt q = some (some R1) ∧ (Vp R1 p → Vp R' p) ∧ ∀ b, own b = some (q, p) ↔ hI own r n0 j b = some (q, p) := by
  intro q p hqp h0
  by_cases e : q = r
  ·subst e
   refine ⟨by rw [hself]; simp, fun R' hR' => ⟨_, hR, fun _ => ?_, fun b => oN hqp.1 hqp.2⟩⟩
   rcases hqp.2 with h | h
   ·exact absurd rfl h
   ·exact .inl h
  ·refine ⟨by rw [hold q e hqp.1]; exact h0, fun R' hR' => ?_⟩
   rw [hold q e hqp.1] at hR'
   exact ⟨R', hR', id, fun b => oN hqp.1 hqp.2⟩
 have hrow : ∀ b i p, hI own r n0 j b = some (r, i :: p) → own b = some (k i, p) := fun b i p h => by
  obtain ⟨q', h1, h2, h3, h4⟩ := An1 h rfl
  have := hj q' h1 (hs.lab b q' p h2).2.2
  rw [h3] at this
  rw [this.2]; exact h2
 have hrow2 : ∀ b i p, i < n → own b = some (k i, p) → hI own r n0 j b = some (r, i :: p) := fun b i p hi h => by
  rw [Ah4 h (hk i hi).1 hr, (hk i hi).2.2]
 refine ⟨hs.below, fun i => (hs.env i).re hok hG (henv i), fun q R1 h1 => ?_, fun b q p h => ?_, fun b hb => ?_, fun b b' l h h' => ?_, fun d v hp => ?_⟩
 ·by_cases e : q = r
  ·subst e
   rw [hself] at h1; cases h1
   rcases hs.roots q _ hR with ⟨b, arr, e, k1, k2, k3, k4⟩ | ⟨k1, k2, k3⟩
   ·refine .inl ⟨b, arr, e, (oN hr (.inr rfl)).1 k1, k2, by simpa [hl] using k3, fun i d v hi hv => ?_⟩
    unfold bX
    rw [if_neg (by simp)]
    have hi2 : i < n := by have := (List.getElem?_eq_some_iff.1 hi).1; simpa using this
    simp only [List.getElem?_map, List.getElem?_range hi2, Option.map_some, Option.some.injEq] at hi
    subst hi
    have hm := k4 i _ v (hcs i hi2) hv
    unfold bX at hm
    rw [if_pos rfl] at hm
    obtain ⟨x1, x2, x3⟩ := hk i hi2
    cases hm with
    | sh _ _ h => cases h
    | ref _ _ _ _ _ _ h0 h1 h =>
     obtain ⟨-, h⟩ := h _ x2
     rcases h with ⟨b1, arr1, e1, cap, o, hb, hw, hv1, hnc, hc, ho⟩ | ⟨hv1, ho, hn, hb⟩
     ·have ho0 : o = 0 := by simpa using ho (.inl rfl)
      subst hv1 ho0
      rcases hs.roots (k i) _ x2 with ⟨b2, arr2, e2, y1, y2, y3, y4⟩ | ⟨y1, y2, y3⟩
      ·have := hs.inj b1 b2 _ hb y1
       subst this
       rw [hw] at y2
       cases y2
       refine .own _ 1 (c i) b1 _ cap arr1 e1 (by omega) (by omega) hnc (hrow2 b1 i [] hi2 hb) hw (by omega) y3 (fun jj d v hd hv => ?_)
       have ht := y4 jj d v hd hv
       unfold bX at ht
       rw [if_neg (by simp)] at ht
       exact ht.relab (q, [i] ++ [jj]) (fun b hb => ⟨wK hok hb, rfl⟩) (fun b p hp => ⟨hrow2 b i _ hi2 hp, rfl⟩) (fun b p hp => hrow b i _ hp)
      ·exact absurd hb (y3 b1)
     ·subst hv1
      have hc0 : c i = [] := List.length_eq_zero_iff.1 hn
      rw [hc0]
      exact .nil _ 1 (fun b hb' => hb b (hrow b i [] hb'))
   ·simp at k1
  ·have hq : q < n0 := Nat.lt_of_not_le (fun h => by unfold nC at h1; rw [if_neg e, if_pos h] at h1; cases h1)
   have h1' : rt q = some (some R1) := by rw [hold q e hq] at h1; exact h1
   rcases hs.roots q R1 h1' with ⟨b, arr, e1, k1, k2, k3, k4⟩ | ⟨k1, k2, k3⟩
   ·refine .inl ⟨b, arr, e1, (oN hq (.inl e)).1 k1, k2, k3, fun i d v hi hv => ?_⟩
    have hc := k4 i d v hi hv
    unfold bX at hc ⊢
    by_cases hb : R1.box = true
    ·rw [if_pos hb] at hc ⊢
     exact hc.re hok hG (hboxes q R1 h1' hb hq e d (List.mem_of_getElem? hi))
    ·rw [if_neg hb] at hc ⊢
     exact hc.frame (fun b hb => ⟨wK hok hb, rfl⟩) (fun b p hp => ⟨(oN hq (.inl e)).1 hp, rfl⟩) (fun b p hp => (oN hq (.inl e)).2 hp)
   ·exact .inr ⟨k1, k2, fun b hb => k3 b ((oN hq (.inl e)).2 hb)⟩
 ·rcases N0 h with ⟨h2, h3, h4⟩ | ⟨q', p', rfl, rfl, h2, h3, h4⟩
  ·obtain ⟨x1, x2, x3⟩ := hs.lab b q p h2
   by_cases e : q = r
   ·subst e
    exact ⟨fun hp => (by have := x1 hp; rw [hR] at this; cases this), x2, by rw [hself]; simp⟩
   ·have hq : q < n0 := h4.resolve_left e
    exact ⟨fun hp => by rw [hold q e hq]; exact x1 hp, x2, by rw [hold q e hq]; exact x3⟩
  ·obtain ⟨x1, x2, x3⟩ := hs.lab b q' p' h2
   obtain ⟨y1, y2⟩ := hj q' h3 x3
   refine ⟨fun hp => ?_, x2, by rw [hself]; simp⟩
   have := x1 hp
   rw [← y2, (hk _ y1).2.1] at this
   cases this
 ·obtain ⟨k1, k2⟩ := hs.hidl b hb
  have hne' : (w0.hl b).1 ≠ r := fun e => by rw [e, hR] at k2; cases k2
  have hq : (w0.hl b).1 < n0 := by have := w0.hlk b hb; omega
  exact ⟨(oN (p := (w0.hl b).2) hq (.inl hne')).1 k1, by rw [hold _ hne' hq]; exact k2⟩
 ·obtain ⟨q, p⟩ := l
  rcases N0 h with ⟨h2, h3, h4⟩ | ⟨q1, p1, rfl, rfl, h2, h3, h4⟩
  ·rcases N0 h' with ⟨h2', h3', h4'⟩ | ⟨q2, p2, e1, e2, h2', h3', h4'⟩
   ·exact hs.inj b b' _ h2 h2'
   ·rcases h3 with h3 | h3
    ·exact absurd e1 h3
    ·rw [h3] at e2; cases e2
  ·have a1 := hrow b _ _ h
   have a2 := hrow b' _ _ h'
   exact hs.inj b b' _ a1 a2
 ·exact (hs.susp d v hp).re hok hG ((RefsIn.ofBelow (w0.hk d v hp)).mono (fun q _ hq => ⟨by omega, .inl (by omega)⟩))
end
end Go.Vm
namespace Go.Vm
open Go Go.RowKit
variable {P : Program} {T : Tab}
def rfA (r n0 : Nat) : D → Bool
 | .ref q p _ _ _ => Nat.blt q n0 && (!Nat.beq r q || hU p)
 | .ptr q p _ => Nat.blt q n0 && (!Nat.beq r q || hU p)
 | .agg _ | .tup _ | .fn _ _ _ => false
 | _ => true
def rfB (r n0 : Nat) : D → Bool
 | .agg ds => ds.all (rfA r n0)
 | .tup ds => ds.all (rfA r n0)
 | .fn _ fs cs => fs.all (rfA r n0) && cs.all (rfA r n0)
 | d => rfA r n0 d
theorem RefsIn.rfA {r n0 : Nat} {d : D} (h : rfA r n0 d = true) : RefsIn (fun q p => q < n0 ∧ (q ≠ r ∨ p = [])) d := by
 have key : ∀ q p, (Nat.blt q n0 && (!Nat.beq r q || hU p)) = true → q < n0 ∧ (q ≠ r ∨ p = []) := fun q p h => by
  simp only [Bool.and_eq_true] at h
  refine ⟨by have := h.1; rwa [Nat.blt_eq] at this, ?_⟩
  cases p with
  | nil => exact .inr rfl
  | cons a p =>
   refine .inl (fun e => ?_)
   have := h.2
   subst e
   simp [hU, Nat.beq_eq] at this
 cases d with
 | undef => exact .undef
 | kb b => exact .kb b
 | lit v => exact .lit v
 | list o sz cs => exact .list o sz cs
 | cptr cs off => exact .cptr cs off
 | full sz cs => exact .full sz cs
 | agg ds => simp [Vm.rfA] at h
 | tup ds => simp [Vm.rfA] at h
 | fn f fs cs => simp [Vm.rfA] at h
 | ref q p sz off m => exact .ref q p sz off m (key q p h)
 | ptr q p off => exact .ptr q p off (key q p h)
theorem RefsIn.rfB {r n0 : Nat} {d : D} (h : rfB r n0 d = true) : RefsIn (fun q p => q < n0 ∧ (q ≠ r ∨ p = [])) d := by
 cases d with
 | undef => exact .undef
 | kb b => exact .kb b
 | lit v => exact .lit v
 | list o sz cs => exact .list o sz cs
 | cptr cs off => exact .cptr cs off
 | full sz cs => exact .full sz cs
 | agg ds => exact .agg ds (fun d hd => RefsIn.rfA (List.all_eq_true.1 h d hd))
 | tup ds => exact .tup ds (fun d hd => RefsIn.rfA (List.all_eq_true.1 h d hd))
 | fn f fs cs =>
  simp only [Vm.rfB, Bool.and_eq_true] at h
  exact .fn f fs cs (fun d hd => RefsIn.rfA (List.all_eq_true.1 h.1 d hd)) (fun d hd => RefsIn.rfA (List.all_eq_true.1 h.2 d hd))
 | ref q p sz off m => exact RefsIn.rfA h
 | ptr q p off => exact RefsIn.rfA h
def nX (r n0 : Nat) (d : D) : D := match rfB r n0 d with
 | true => d
 | false => .undef
def sw (a b i : Nat) : Nat := if i = a then b else if i = b then a else i
theorem Z5 (a b i : Nat) : sw a b (sw a b i) = i := by unfold sw; split <;> split <;> (try split) <;> omega
theorem Acp {a b i n : Nat} (ha : a < n) (hb : b < n) (h : i < n) : sw a b i < n := by unfold sw; split; exact hb; split; exact ha; exact h
def wM (c : List D) : D := .list true 1 c
def zG (rows : List (List D)) (a b : Nat) : List D := (List.range rows.length).map fun i => wM (rows.getD (sw a b i) [])
def jW (n0 : Nat) (rows : List (List D)) : List D := (List.range rows.length).map fun i => .ref (n0 + i) [] 1 0 (rows.getD i []).length
def pJ (rows : List (List D)) : List (Option Root) := rows.map fun c => some ⟨false, 1, c⟩
theorem Ahc {n0 : Nat} {rows : List (List D)} {i : Nat} (h : i < rows.length) : (jW n0 rows)[i]? = some (.ref (n0 + i) [] 1 0 (rows.getD i []).length) := by
 simp [jW, List.getElem?_map, List.getElem?_range h]
def Aag (T : Tab) (o : Oper) : Bool := match o.op with
 | .store t _ _ => K9 T t
 | _ => false
def vT (T : Tab) : List Oper → Bool
 | a :: l => (match l with
  | [_, c] => Aag T a && Aag T c
  | _ => vT T l)
 | [] => false
def yF (P : Program) (T : Tab) (kp : Nat) (ops : List Oper) (st : St) (D : St → (St → Prop) → Prop) (K : St → Prop) : Prop :=
 ∃ r rows, st.rt[r]? = some (some ⟨false, 1, rows.map wM⟩) ∧ kp ≤ r ∧ rows ≠ [] ∧ Adg r st.rt = true ∧ (st.rt.all fun x => match x with
  | some ⟨true, _, cs⟩ => cs.all (rfB r st.rt.length)
  | _ => true) = true ∧
  D ⟨st.env.map (fC r), st.rt.set r (some ⟨true, 1, jW st.rt.length rows⟩) ++ pJ rows⟩ fun st' =>
   ∃ a b, a < rows.length ∧ b < rows.length ∧ st'.rt = st.rt.set r (some ⟨true, 1, ((jW st.rt.length rows).set a (.ref (st.rt.length + b) [] 1 0 (rows.getD b []).length)).set b (.ref (st.rt.length + a) [] 1 0 (rows.getD a []).length)⟩) ++ pJ rows ∧
    K ⟨st'.env.map (nX r st.rt.length), st.rt.set r (some ⟨false, 1, zG rows a b⟩)⟩
theorem Ao7 (hT : TabOk P T) (hm : P.follows .mixedOrders = true) {kp id : Nat} {ops : Array Oper} {K : St → Prop} {st : St} {Q : Exit → St → Prop} (hsl : oM ops = true)
  (h : yF P T kp ops.toList st (fun st K => jH P T ops.toList ops.toList st (fun l => l) K) K) (hK : ∀ st', K st' → Q .normal st') : dJ P kp (.region id ops true) Q st := by
 obtain ⟨r, rows, hR, hkr, hne, hbox, hbox2, hd⟩ := h
 intro w0 a w hkp hf
 obtain ⟨own, hdf, hl, hs⟩ := hf
 have hrl : r < st.rt.length := (List.getElem?_eq_some_iff.1 hR).1
 have hgetE : ∀ (g : D → D) (env : List D), g .undef = .undef → ∀ i, (env.map g).getD i .undef = g (env.getD i .undef) := fun g env hg i => by
  rw [List.getD_eq_getElem?_getD, List.getD_eq_getElem?_getD, List.getElem?_map]
  cases env[i]? with
  | none => exact hg.symm
  | some d => rfl
 have hs0 : Sim w0 (fun i => (st.env.map (fC r)).getD i .undef) (aQ st.rt) (fun i => a.tmps.getD i Go.undef) w own := by
  refine ⟨hs.below, fun i => ?_, hs.roots, hs.lab, hs.hidl, hs.inj, hs.susp⟩
  show Mt w (okb w own) own (aQ st.rt) ((st.env.map (fC r)).getD i .undef) (a.tmps.getD i Go.undef)
  rw [hgetE (fC r) st.env rfl]
  unfold fC
  split
  ·exact hs.env i
  ·exact .undef _
 have hlen : (rows.map wM).length = rows.length := by simp
 have hx := hs0.explode (n0 := st.rt.length) hR rfl (fun q hq => List.getElem?_eq_none hq) (fun d hd => by
   obtain ⟨c, -, rfl⟩ := List.mem_map.1 hd; exact ⟨c, rfl⟩) (by simpa using hne) (fun i => by
   show shB r ((st.env.map (fC r)).getD i .undef) = true
   rw [hgetE (fC r) st.env rfl]
   unfold fC
   split
   ·assumption
   ·rfl) (by rw [hkp]; exact hkr) (fun r1 R1 h1 hb d hd => by
   have := List.all_eq_true.1 hbox (some R1) (List.mem_of_getElem? h1)
   obtain ⟨b1, s1, c1⟩ := R1
   simp only at hb
   subst hb
   exact List.all_eq_true.1 this d hd)
 have hexC : rF st.rt.length (rows.map wM) = jW st.rt.length rows := by
  unfold rF jW
  rw [hlen]
  refine List.map_congr_left (fun i hi => ?_)
  have hi' : i < rows.length := List.mem_range.1 hi
  rw [List.getD_eq_getElem?_getD, List.getElem?_map, List.getElem?_eq_getElem hi', Option.map_some, Option.getD_some, List.getD_eq_getElem?_getD, List.getElem?_eq_getElem hi', Option.getD_some]
  rfl
 have hrt : ∀ X : Root, aQ (st.rt.set r (some X) ++ pJ rows) = fun q => if q = r then some (some X) else if st.rt.length ≤ q ∧ q < st.rt.length + rows.length then some (some ⟨false, 1, rows.getD (q - st.rt.length) []⟩) else aQ st.rt q := fun X => by
  funext q
  show (st.rt.set r (some X) ++ pJ rows)[q]? = _
  by_cases e : q = r
  ·subst e
   rw [if_pos rfl, List.getElem?_append_left (by simpa using hrl), List.getElem?_set_self hrl]
  ·rw [if_neg e]
   by_cases e2 : q < st.rt.length
   ·rw [if_neg (by omega), List.getElem?_append_left (by simpa using e2), List.getElem?_set_ne (fun h => e h.symm)]; rfl
   ·rw [List.getElem?_append_right (by simp; omega), List.length_set]
    by_cases e3 : q < st.rt.length + rows.length
    ·rw [if_pos ⟨by omega, e3⟩]
     have : q - st.rt.length < rows.length := by omega
     simp [pJ, List.getElem?_map, this, List.getD_eq_getElem?_getD]
    ·rw [if_neg (by omega)]
     have : rows.length ≤ q - st.rt.length := by omega
     simp [pJ, List.getElem?_map, aQ, this]
     omega
 have hexRt : jZ (aQ st.rt) r st.rt.length 1 (rows.map wM) = aQ (st.rt.set r (some ⟨true, 1, jW st.rt.length rows⟩) ++ pJ rows) := by
  rw [hrt]
  funext q
  unfold jZ
  rw [hexC, hlen]
  by_cases e : q = r
  ·rw [if_pos e, if_pos e]
  ·rw [if_neg e, if_neg e]
   by_cases e2 : st.rt.length ≤ q ∧ q < st.rt.length + rows.length
   ·rw [if_pos e2, if_pos e2]
    have : q - st.rt.length < rows.length := by omega
    rw [List.getD_eq_getElem?_getD, List.getElem?_map, List.getElem?_eq_getElem this, Option.map_some, Option.getD_some, List.getD_eq_getElem?_getD, List.getElem?_eq_getElem this, Option.getD_some]
    rfl
   ·rw [if_neg e2, if_neg e2]
 simp only [hexRt] at hx
 refine wp_mono (Afh hT hm (Q := fun e st' => e = .normal ∧ (∃ a b, a < rows.length ∧ b < rows.length ∧ st'.rt = st.rt.set r (some ⟨true, 1, ((jW st.rt.length rows).set a (.ref (st.rt.length + b) [] 1 0 (rows.getD b []).length)).set b (.ref (st.rt.length + a) [] 1 0 (rows.getD a []).length)⟩) ++ pJ rows ∧         K ⟨st'.env.map (nX r st.rt.length), st.rt.set r (some ⟨false, 1, zG rows a b⟩)⟩)) hsl hd (fun st' h => ⟨rfl, h⟩) w0 a w hkp ⟨_, hdf, by simpa using hl, hx⟩) (fun e a' w' hpost => ?_)
 obtain ⟨st', ⟨own', hd', hl', hs'⟩, rfl, a1, b1, ha, hb, hst, hk⟩ := hpost
 refine ⟨_, ?_, hK _ hk⟩
 have hs1 : Sim w0 (fun i => (st'.env.map (nX r st.rt.length)).getD i .undef) (aQ st'.rt) (fun i => a'.tmps.getD i Go.undef) w' own' := by
  refine ⟨hs'.below, fun i => ?_, hs'.roots, hs'.lab, hs'.hidl, hs'.inj, hs'.susp⟩
  show Mt w' (okb w' own') own' (aQ st'.rt) ((st'.env.map (nX r st.rt.length)).getD i .undef) (a'.tmps.getD i Go.undef)
  rw [hgetE (nX r st.rt.length) st'.env rfl]
  unfold nX
  split
  ·exact hs'.env i
  ·exact .undef _
 rw [hst, hrt] at hs1
 have hc := hs1.collapse (r := r) (n0 := st.rt.length) (n := rows.length) (k := fun i => st.rt.length + sw a1 b1 i) (j := fun q => sw a1 b1 (q - st.rt.length)) (c := fun i => rows.getD (sw a1 b1 i) [])
  (cs := ((jW st.rt.length rows).set a1 (.ref (st.rt.length + b1) [] 1 0 (rows.getD b1 []).length)).set b1 (.ref (st.rt.length + a1) [] 1 0 (rows.getD a1 []).length))
  (if_pos rfl) hrl (by simp [jW]) (fun i hi => ?_) (fun i hi => ⟨by omega, ?_, ?_⟩) (fun q hq hn => ?_) (fun i => ?_) (by rw [hkp]; exact hkr) (fun r1 R1 h1 hb1 hlt hner d hd => ?_)
 ·refine ⟨hI own' r st.rt.length (fun q => sw a1 b1 (q - st.rt.length)), hd', by simpa using hl', ?_⟩
  have e : nC (fun q => if q = r then some (some ⟨true, 1, ((jW st.rt.length rows).set a1 (.ref (st.rt.length + b1) [] 1 0 (rows.getD b1 []).length)).set b1 (.ref (st.rt.length + a1) [] 1 0 (rows.getD a1 []).length)⟩) else if st.rt.length ≤ q ∧ q < st.rt.length + rows.length then some (some ⟨false, 1, rows.getD (q - st.rt.length) []⟩) else aQ st.rt q) r st.rt.length rows.length (fun i => rows.getD (sw a1 b1 i) [])
    = aQ (st.rt.set r (some ⟨false, 1, zG rows a1 b1⟩)) := by
   funext q
   unfold nC
   show _ = (st.rt.set r (some ⟨false, 1, zG rows a1 b1⟩))[q]?
   by_cases e : q = r
   ·subst e
    rw [if_pos rfl, List.getElem?_set_self hrl]; rfl
   ·rw [if_neg e, List.getElem?_set_ne (fun h => e h.symm)]
    by_cases e2 : st.rt.length ≤ q
    ·rw [if_pos e2, List.getElem?_eq_none e2]
    ·rw [if_neg e2]
     show (if q = r then _ else _) = _
     rw [if_neg e, if_neg (by omega)]; rfl
  rw [e] at hc
  exact hc
 ·by_cases e1 : i = b1
  ·subst e1
   rw [List.getElem?_set_self (by simpa [jW] using hi)]
   by_cases e2 : i = a1
   ·subst e2; simp [sw]
   ·simp [sw, e2]
  ·rw [List.getElem?_set_ne (fun h => e1 h.symm)]
   by_cases e2 : i = a1
   ·subst e2
    rw [List.getElem?_set_self (by simpa [jW] using hi)]
    simp [sw]
   ·rw [List.getElem?_set_ne (fun h => e2 h.symm), Ahc hi]
    simp [sw, e1, e2]
 ·have := Acp ha hb hi
  rw [if_neg (by omega), if_pos ⟨by omega, by omega⟩, show st.rt.length + sw a1 b1 i - st.rt.length = sw a1 b1 i by omega]
 ·show sw a1 b1 (st.rt.length + sw a1 b1 i - st.rt.length) = i
  rw [show st.rt.length + sw a1 b1 i - st.rt.length = sw a1 b1 i by omega, Z5]
 ·rw [if_neg (by omega)] at hn
  have h2 : q < st.rt.length + rows.length := Nat.lt_of_not_le (fun h => hn (by rw [if_neg (by omega)]; exact List.getElem?_eq_none hq))
  refine ⟨Acp ha hb (by omega), ?_⟩
  show st.rt.length + sw a1 b1 (sw a1 b1 (q - st.rt.length)) = q
  rw [Z5]; omega
 ·show RefsIn _ ((st'.env.map (nX r st.rt.length)).getD i .undef)
  rw [hgetE (nX r st.rt.length) st'.env rfl]
  unfold nX
  split
  ·exact RefsIn.rfB (by assumption)
  ·exact .undef
 ·rw [if_neg hner, if_neg (by omega)] at h1
  have := List.all_eq_true.1 hbox2 (some R1) (List.mem_of_getElem? h1)
  obtain ⟨bb, s1, c1⟩ := R1
  simp only at hb1
  subst hb1
  exact RefsIn.rfB (List.all_eq_true.1 this d hd)
end Go.Vm
namespace Go.Vm
open Go Go.RowKit
def gS (o : Oper) : List Nat := o.op.operands.toList.filterMap fun x => match x with
 | .tmp t => some t
 | _ => none
def oQ (o : Oper) (l : List Nat) : Bool := match o.dst with
 | some t => l.contains t
 | none => false
def lY (o : Oper) : Bool := match o.op with
 | .binOp .add _ _ _ _ => true
 | .indexAddr _ _ _ => true
 | .load _ _ => true
 | _ => false
def qJ (o : Oper) : Bool := match o.op with
 | .binOp .add _ _ _ _ => true
 | .indexAddr _ _ _ => true
 | .load _ _ => true
 | .store _ _ _ => true
 | .assign _ => true
 | .move _ => true
 | .call { callee := .value _, .. } => true
 | _ => false
def yL (b : Nat) (c : Nat → Bool) : Nat → Bool
 | 0 => true
 | n + 1 => (c n || b.testBit n) && yL b c n
def rQ (ops : List Oper) (c : Nat → Bool) (j : Nat) : Bool := yL ((eE ops).getD j 0) c ops.length
def yZ (bs : List Nat) (c : Nat → Bool) (i : Nat) : Nat → Bool
 | 0 => false
 | n + 1 => (c n && (Nat.blt i n && !((bs.getD n 0).testBit i))) || yZ bs c i n
def qX (ops : List Oper) (c : Nat → Bool) (i : Nat) : Bool := yZ (eE ops) c i ops.length
def fL : List Bool → Nat → List Bool
 | [], 0 => [true]
 | [], k + 1 => false :: fL [] k
 | _ :: l, 0 => true :: l
 | b :: l, k + 1 => b :: fL l k
def eX : List Bool → List Nat → List Bool
 | l, [] => l
 | l, r :: rs => eX (fL l r) rs
theorem D9 : ∀ (l : List Bool) (a b : Nat), fL (fL l a) b = fL (fL l b) a
 | [], 0, 0 => rfl
 | [], 0, b + 1 => rfl
 | [], a + 1, 0 => rfl
 | [], a + 1, b + 1 => by simp only [fL, D9 [] a b]
 | x :: l, 0, 0 => rfl
 | x :: l, 0, b + 1 => rfl
 | x :: l, a + 1, 0 => rfl
 | x :: l, a + 1, b + 1 => by simp only [fL, D9 l a b]
theorem Z2 : ∀ (rs : List Nat) (l : List Bool) (a : Nat), eX (fL l a) rs = fL (eX l rs) a
 | [], _, _ => rfl
 | r :: rs, l, a => by simp only [eX]; rw [D9, Z2 rs]
theorem Afl : ∀ (rs qs : List Nat) (l : List Bool), eX (eX l rs) qs = eX (eX l qs) rs
 | [], _, _ => rfl
 | r :: rs, qs, l => by simp only [eX]; rw [Afl rs qs, Z2 qs]
theorem D0 : ∀ (l : List Bool) (a b : Nat), (fL l a).getD b false = (b == a || l.getD b false)
 | [], 0, 0 => rfl
 | [], 0, b + 1 => by simp [fL]
 | [], a + 1, 0 => by simp [fL]
 | [], a + 1, b + 1 => by
  have := D0 [] a b
  simp only [fL, List.getD_cons_succ] at this ⊢
  rw [this]; simp
 | x :: l, 0, 0 => by simp [fL]
 | x :: l, 0, b + 1 => by simp [fL]
 | x :: l, a + 1, 0 => by simp [fL]
 | x :: l, a + 1, b + 1 => by
  have := D0 l a b
  simp only [fL, List.getD_cons_succ] at this ⊢
  rw [this]; simp
theorem V5 : ∀ (rs : List Nat) (l : List Bool) (b : Nat), (eX l rs).getD b false = (rs.contains b || l.getD b false)
 | [], l, b => by simp [eX]
 | r :: rs, l, b => by
  simp only [eX]
  rw [V5 rs, D0, List.contains_cons]
  cases (b == r) <;> cases (rs.contains b) <;> rfl
theorem Aap {bs : List Nat} {c : Nat → Bool} {i j : Nat} (hc : c j = true) (hij : i < j) (hb : (bs.getD j 0).testBit i = false) : ∀ n, j < n → yZ bs c i n = true
 | n + 1, hj => by
  simp only [yZ, Bool.or_eq_true, Bool.and_eq_true, Bool.not_eq_true']
  rcases Nat.lt_or_ge j n with h | h
  ·exact .inr (Aap hc hij hb n h)
  ·have e : j = n := by omega
   subst e
   exact .inl ⟨hc, by rw [Nat.blt_eq]; exact hij, hb⟩
def O5 (ops : List Oper) (c : Nat → Bool) (i j : Nat) (oi oj : Oper) : Bool :=
 lY oi && (qJ oj && (!(oQ oi (gS oj)) && !(oQ oj (gS oi))))
def Aeh (ops : List Oper) (c : Nat → Bool) (i j : Nat) (oi oj : Oper) : Bool :=
 (!(oQ oj (gS oi)) || (c j && (!(c i) && ((eE ops).getD j 0).testBit i))) && (match oi.dst, oj.dst with
  | some x, some y => !(x == y)
  | _, _ => true) && (!(c i && c j) || (((eE ops).getD j 0).testBit i || O5 ops c i j oi oj)) && (!(c i) || (c j || !(oQ oi (gS oj)))) && (c i || (!(oQ oi (gS oj)) || ((eE ops).getD j 0).testBit i))
def zF (ops : Array Oper) (c : Nat → Bool) : Bool :=
 (List.range ops.size).all fun j => match ops[j]? with
  | none => false
  | some oj => (oj.guard.isNone && !(oQ oj (gS oj))) && (oj.after.toList.all (fun e => !Region.binds .any e || Nat.blt e.on j) &&
   (List.range j).all fun i => match ops[i]? with
    | none => false
    | some oi => Aeh ops.toList c i j oi oj)
theorem uL {o : Oper} {l : List Nat} (h : oQ o l = false) {t : Nat} (ht : o.dst = some t) : t ∉ l := fun hm => by
 unfold oQ at h
 rw [ht] at h
 simp at h
 exact h hm
section
variable {T : Tab} {rt : RT} {n : Nat} {K : Res → Prop}
theorem As3 {t : Nat} {a x : D} {K' : Res → Prop} (h : fB T rt t a x K) (hK : ∀ res, K res → K' res) : fB T rt t a x K' := by
 unfold fB at h
 have h1 := aO h; clear h; obtain ⟨hk, h⟩ := h1
 split at h
 ·split at h
  ·rename_i hR
   split at h
   ·rename_i hbox
    split at h
    ·rename_i e1
     have h1 := aO h; clear h; obtain ⟨hk2, h⟩ := h1
     have hh := hK _ h; try simp only [hbox] at hh
     unfold fB
     have := hR
     refine aS hk ?_
     try simp only [this, hbox, e1]
     exact aS hk2 (hh)
    ·exact h.elim
   ·rename_i hbox
    have h1 := aO h; clear h; obtain ⟨hk2, h⟩ := h1
    split at h
    ·have h1 := aO h; clear h; obtain ⟨hk3, h⟩ := h1
     obtain ⟨cs', h1, h⟩ := h
     have hh := hK _ h; try simp only [hbox] at hh
     unfold fB
     have := hR
     refine aS hk ?_
     try simp only [this, hbox]
     exact aS hk2 (aS hk3 ⟨cs', h1, hh⟩)
    ·obtain ⟨cs', h1, h⟩ := h
     have hh := hK _ h; try simp only [hbox] at hh
     unfold fB
     have := hR
     refine aS hk ?_
     try simp only [this, hbox]
     exact aS hk2 ⟨cs', h1, hh⟩
    ·obtain ⟨cs', h1, h⟩ := h
     have hh := hK _ h; try simp only [hbox] at hh
     unfold fB
     have := hR
     refine aS hk ?_
     try simp only [this, hbox]
     exact aS hk2 ⟨cs', h1, hh⟩
    ·have h1 := aO h; clear h; obtain ⟨hk3, h⟩ := h1
     split at h
     ·rename_i hR'
      have h1 := aO h; clear h; obtain ⟨hk4, h⟩ := h1
      obtain ⟨g1, g2, g3, cs', g4, h⟩ := h
      have hh := hK _ h; try simp only [hbox] at hh
      unfold fB
      have t1 := hR
      have t2 := hR'
      refine aS hk ?_
      try simp only [t1, t2, hbox]
      exact aS hk2 (aS hk3 (aS hk4 ⟨g1, g2, g3, cs', g4, hh⟩))
     ·exact h.elim
    ·exact h.elim
  ·exact h.elim
 ·exact h.elim
end
theorem An4 {P : Program} {rt : RT} {n : Nat} {f : D} {args : List D} {K K' : Res → Prop} (h : mV P rt n f args K ∨ lI P rt f args K) (hK : ∀ res, K res → K' res) : mV P rt n f args K' ∨ lI P rt f args K' := by
 rcases h with h | h
 ·refine .inl ?_
  unfold mV at h ⊢
  split at h
  ·obtain ⟨ds, rd, ⟨rs, h1, h2⟩, h3⟩ := tO (f := fun rt => eL rt 6) (fun d K h => Ae1 6 d K h) _ _ h
   exact h3 rt (fun _ _ => rfl) _ ⟨rs, h1, hK _ h2⟩
  ·exact h.elim
 ·refine .inr ?_
  unfold lI at h ⊢
  split at h
  ·split at h
   ·split at h
    ·exact ⟨h.1, hK _ h.2⟩
    ·exact h.elim
   ·obtain ⟨rs, h1, h2⟩ := h
    exact ⟨rs, h1, hK _ h2⟩
   ·exact h.elim
  ·exact h.elim
theorem Asf {T : Tab} {t : Nat} {x i : D} {rt : RT} {K K' : Res → Prop} (h : jO T rt t x i K) (hK : ∀ res, K res → K' res) : jO T rt t x i K' := by
 unfold jO at h
 have h1 := aO h; clear h; obtain ⟨hk, h⟩ := h1
 split at h
 ·rename_i e1
  have h1 := aO h; clear h; obtain ⟨hk2, h⟩ := h1
  split at h
  ·rename_i hR
   have hh := hK _ h.2
   unfold jO
   refine aS hk ?_
   try simp only [e1]
   refine aS hk2 ?_
   try simp only [hR]
   exact ⟨h.1, hh⟩
  ·exact h.elim
 ·rename_i e1
  have h1 := aO h; clear h; obtain ⟨hk2, h⟩ := h1
  have hh := hK _ h.2
  unfold jO
  refine aS hk ?_
  try simp only [e1]
  exact aS hk2 ⟨h.1, hh⟩
 ·exact h.elim
theorem Akz {T : Tab} {t : Nat} {a : D} {rt : RT} {K K' : Res → Prop} (h : eJ T rt t a K) (hK : ∀ res, K res → K' res) : eJ T rt t a K' := by
 unfold eJ at h
 have h1 := aO h; clear h; obtain ⟨hk, h⟩ := h1
 split at h
 ·split at h
  ·rename_i hR
   split at h
   ·rename_i hbox
    split at h
    ·split at h
     ·rename_i hagg
      have h1 := aO h; clear h; obtain ⟨hk2, h⟩ := h1
      have hh := hK _ h
      unfold eJ
      refine aS hk ?_
      try simp only [hR, hbox, hagg]
      exact aS hk2 hh
     ·rename_i hagg
      split at h
      ·rename_i hd
       have hh := hK _ h
       unfold eJ
       refine aS hk ?_
       try simp only [hR, hbox, hagg, hd]
       exact hh
      ·exact h.elim
    ·exact h.elim
   ·rename_i hbox
    split at h
    ·rename_i hagg
     obtain ⟨ds, hds, h⟩ := h
     have hh := hK _ h
     unfold eJ
     refine aS hk ?_
     try simp only [hR, hbox, hagg]
     exact ⟨ds, hds, hh⟩
    ·rename_i hagg
     obtain ⟨ds, hds, h⟩ := h
     have hh := hK _ h
     unfold eJ
     refine aS hk ?_
     try simp only [hR, hbox, hagg]
     exact ⟨ds, hds, hh⟩
  ·exact h.elim
 ·split at h
  ·rename_i hagg
   obtain ⟨ds, h1, h2, h⟩ := h
   have hh := hK _ h
   unfold eJ
   refine aS hk ?_
   try simp only [hagg]
   exact ⟨ds, h1, h2, hh⟩
  ·rename_i hagg
   obtain ⟨ds, h1, h⟩ := h
   have hh := hK _ h
   unfold eJ
   refine aS hk ?_
   try simp only [hagg]
   exact ⟨ds, h1, hh⟩
 ·exact h.elim
theorem Ak9 {P : Program} {T : Tab} {env : List D} {rt : RT} {n t t' : Nat} {x y : Operand} {K K' : Res → Prop} (h : bN P T env rt n (.binOp .add t x y t') K) (hK : ∀ res, K res → K' res) : bN P T env rt n (.binOp .add t x y t') K' := by
 simp only [bN] at h ⊢
 split at h
 ·unfold nZ at h
  have h2 := (aO h).2
  split at h2
  ·split at h2
   ·exact h2.elim
   ·split at h2
    ·exact h2.2.elim
    ·exact h2.elim
   ·exact h2.elim
  ·exact h2.elim
 ·rename_i hyn
  unfold qF at h ⊢
  split at h
  ·rename_i k a k' b hx hy
   obtain ⟨hk, h2⟩ := aO h
   simp only at h2
   unfold gH at h2
   split at h2
   ·rename_i hu
    have hh := hK _ h2
    simp only [gH, hu]
    exact aS hk hh
   ·rename_i hu
    obtain ⟨hi, h2⟩ := h2
    have hh := hK _ h2
    simp only [gH, hu]
    exact aS hk ⟨hi, hh⟩
  ·exact ((aO h).2).elim
  ·exact h.elim
theorem Aa8 {P : Program} {T : Tab} {env : List D} {rt : RT} {n : Nat} {o : Oper} {K K' : Res → Prop} (hw : qJ o = true) (h : bN P T env rt n o.op K) (hK : ∀ res, K res → K' res) : bN P T env rt n o.op K' := by
 unfold qJ at hw
 split at hw
 ·rename_i t x y t' hop
  rw [hop] at h ⊢
  exact Ak9 h hK
 ·rename_i t x i hop
  rw [hop] at h ⊢
  simp only [bN] at h ⊢
  exact Asf h hK
 ·rename_i t x hop
  rw [hop] at h ⊢
  simp only [bN] at h ⊢
  exact Akz h hK
 ·rename_i t a x hop
  rw [hop] at h ⊢
  simp only [bN] at h ⊢
  exact As3 h hK
 ·rename_i x hop
  rw [hop] at h ⊢
  simp only [bN] at h ⊢
  exact hK _ h
 ·rename_i x hop
  rw [hop] at h ⊢
  simp only [bN] at h ⊢
  exact hK _ h
 ·rename_i f args ts hop
  rw [hop] at h ⊢
  simp only [bN] at h ⊢
  exact An4 h hK
 ·cases hw
def B1 (ops : List Oper) (c : Nat → Bool) (i j : Nat) (oi oj : Oper) : Prop :=
 lY oi = true ∧ qJ oj = true ∧ (∀ t, oi.dst = some t → t ∉ gS oj) ∧ (∀ t, oj.dst = some t → t ∉ gS oi)
theorem Ao8 {ops : List Oper} {c : Nat → Bool} {i j : Nat} {oi oj : Oper} (h : O5 ops c i j oi oj = true) : B1 ops c i j oi oj := by
 unfold O5 at h
 simp only [Bool.and_eq_true, Bool.not_eq_true'] at h
 obtain ⟨h1, h2, h3, h4⟩ := h
 exact ⟨h1, h2, fun t ht => uL h3 ht, fun t ht => uL h4 ht⟩
def Aj8 (o : Oper) : Bool := match o.op with
 | .call { callee := .value _, .. } => true
 | .store _ _ _ => true
 | .buildSlice _ _ _ => true
 | .alloc _ => true
 | _ => false
def Ads (b : Nat) : Nat → List Bool → Bool
 | _, [] => false
 | k, x :: xs => (x && b.testBit k) || Ads b (k + 1) xs
def Aey (bs : List Nat) : Nat → List Oper → List Bool → List Bool
 | _, [], acc => acc
 | j, o :: os, acc => Aey bs (j + 1) os (acc ++ [Aj8 o || Ads (bs.getD j 0) 0 acc])
def B8 (ops : List Oper) (j : Nat) : Bool := (Aey (eE ops) 0 ops []).getD j false
def Ask (ops : Array Oper) : List Nat := (List.range ops.size).filter (B8 ops.toList)
def Aj4 (ops : Array Oper) : List Nat := (List.range ops.size).filter fun j => !(B8 ops.toList j)
def vP : List Oper → List Nat
 | [] => []
 | o :: os => match o.op with
  | .call { callee := .value _, .. } => (match o.dst with
   | some t => t :: vP os
   | none => vP os)
  | _ => vP os
def Acn (t : Nat) : List Nat → Bool
 | [] => false
 | x :: xs => Nat.beq t x || Acn t xs
def Aak (l : List Nat) : List Oper → Bool
 | [] => false
 | o :: os => (match o.op with
  | .indexAddr _ _ (.tmp t) => Acn t l
  | _ => false) || Aak l os
def zB (ops : List Oper) : Bool := match vP ops with
 | [] => false
 | l => Aak l ops
inductive Alt (A B : Prop) : Prop where
 | fst : A → Alt A B
 | snd : B → Alt A B
theorem Alt.iff {A B : Prop} : Alt A B ↔ A ∨ B := ⟨fun h => match h with
 | .fst a => .inl a
 | .snd b => .inr b, fun h => h.elim .fst .snd⟩
def pL (ops : List Oper) (A B : Prop) : Prop := match vP ops with
 | [] => A
 | _ :: _ => Alt A B
theorem T0 {ops : List Oper} {A B : Prop} (h : pL ops A B) : A ∨ B := by
 unfold pL at h
 split at h
 ·exact .inl h
 ·exact Alt.iff.1 h
def wH : List Nat → (List Nat → Prop) → Prop
 | [], k => k []
 | n :: l, k => wH l fun l => k (n :: l)
theorem P0 : ∀ (l : List Nat) (k : List Nat → Prop), wH l k = k l
 | [], _ => rfl
 | n :: l, k => by simp only [wH, P0 l]
section
variable {P : Program} {T : Tab}
def vX (P : Program) (T : Tab) (ops : List Oper) : List Nat → St → List Nat → (St → List Nat → Prop) → Prop
 | [], st, rd, K => K st rd
 | j :: js, st, rd, K => match ops[j]? with
  | some o => dD P T o st fun d res => chk (res.wr.isEmpty && res.new.isEmpty) (cJ ⟨setSlot st.env o.dst d, st.rt⟩ fun st' => vX P T ops js st' (rd ++ res.rd) K)
  | none => False
def xB (rt0 rt : List (Option Root)) (p : Prop) : List Nat → Prop
 | [] => p
 | r :: rs => rt[r]? = rt0[r]? ∧ xB rt0 rt p rs
theorem E4 {rt0 rt : List (Option Root)} {p : Prop} : ∀ {l : List Nat}, xB rt0 rt p l → (∀ r ∈ l, rt[r]? = rt0[r]?) ∧ p
 | [], h => ⟨fun r hr => (List.not_mem_nil hr).elim, h⟩
 | r :: rs, h => by
  obtain ⟨h1, h2⟩ := h
  obtain ⟨h3, h4⟩ := E4 h2
  refine ⟨fun q hq => ?_, h4⟩
  rcases List.mem_cons.1 hq with rfl | hq
  ·exact h1
  ·exact h3 q hq
theorem X5 {b : Nat} {c : Nat → Bool} : ∀ {n : Nat}, yL b c n = true → ∀ i, i < n → c i = false → b.testBit i = true
 | n + 1, h, i, hi, hc => by
  simp only [yL, Bool.and_eq_true, Bool.or_eq_true] at h
  rcases Nat.lt_or_ge i n with h1 | h1
  ·exact X5 h.2 i h1 hc
  ·have e : i = n := by omega
   subst e
   rcases h.1 with h2 | h2
   ·rw [hc] at h2; cases h2
   ·exact h2
def lD (rt0 rt : List (Option Root)) (p : Prop) (rd : List Nat) : Bool → Prop
 | true => p
 | false => xB rt0 rt p rd
theorem B9 {rt0 rt : List (Option Root)} {p : Prop} {rd : List Nat} : ∀ {b : Bool}, lD rt0 rt p rd b → ((∀ r ∈ rd, rt[r]? = rt0[r]?) ∨ b = true) ∧ p
 | true, h => ⟨.inr rfl, h⟩
 | false, h => ⟨.inl (E4 h).1, (E4 h).2⟩
def gK (rt0 rt : List (Option Root)) (p : Prop) : Nat → List Bool → Prop
 | _, [] => p
 | k, true :: l => rt[k]? = rt0[k]? ∧ gK rt0 rt p (k + 1) l
 | k, false :: l => gK rt0 rt p (k + 1) l
theorem sQ {rt0 rt : List (Option Root)} {p : Prop} : ∀ {l : List Bool} {k : Nat}, gK rt0 rt p k l ↔ (∀ r, l.getD r false = true → rt[k + r]? = rt0[k + r]?) ∧ p
 | [], k => by simp [gK]
 | true :: l, k => by
  simp only [gK, sQ (l := l)]
  constructor
  ·rintro ⟨h1, h2, h3⟩
   refine ⟨fun r hr => ?_, h3⟩
   cases r with
   | zero => exact h1
   | succ r =>
    have := h2 r (by simpa using hr)
    rw [show k + (r + 1) = k + 1 + r by omega]; exact this
  ·rintro ⟨h1, h3⟩
   refine ⟨h1 0 (by simp), fun r hr => ?_, h3⟩
   have := h1 (r + 1) (by simpa using hr)
   rw [show k + 1 + r = k + (r + 1) by omega]; exact this
 | false :: l, k => by
  simp only [gK, sQ (l := l)]
  constructor
  ·rintro ⟨h2, h3⟩
   refine ⟨fun r hr => ?_, h3⟩
   cases r with
   | zero => simp at hr
   | succ r =>
    have := h2 r (by simpa using hr)
    rw [show k + (r + 1) = k + 1 + r by omega]; exact this
  ·rintro ⟨h1, h3⟩
   refine ⟨fun r hr => ?_, h3⟩
   have := h1 (r + 1) (by simpa using hr)
   rw [show k + 1 + r = k + (r + 1) by omega]; exact this
def A8 : Bool → List Bool → List Nat → (List Bool → Prop) → Prop
 | true, lt, rd, k => k (eX lt rd)
 | false, lt, _, k => k lt
def H5 : Bool → List Bool → List Nat → List Bool
 | true, lt, rd => eX lt rd
 | false, lt, _ => lt
theorem Y9 (b : Bool) (lt : List Bool) (rd : List Nat) (k : List Bool → Prop) : A8 b lt rd k = k (H5 b lt rd) := by cases b <;> rfl
def vS (P : Program) (T : Tab) (ops : List Oper) (c : Nat → Bool) (rd : List Nat) (rt0 : List (Option Root)) (j : Nat) (o : Oper) (lt : List Bool) (st : St) (k : List Bool → St → Prop) : Prop :=
 match lY o with
 | true => dD P T o st fun d res => chk (res.wr.isEmpty && res.new.isEmpty) (A8 (qX ops c j) lt res.rd fun lt' => cJ (bY st o.dst d res) fun st' => k lt' st')
 | false => dD P T o st fun d res => lD rt0 (dK st.rt res.wr ++ res.new) (gK st.rt (dK st.rt res.wr ++ res.new) (cJ (bY st o.dst d res) fun st' => k lt st') 0 lt) rd (rQ ops c j)
def dQ (P : Program) (T : Tab) (ops : List Oper) (c : Nat → Bool) (rd : List Nat) (rt0 : List (Option Root)) (K : St → Prop) : List Nat → List Bool → St → Prop
 | [], _, st => K st
 | j :: js, lt, st => match ops[j]? with
  | some o => (match o.op with
   | .call { callee := .value f, args, .. } => (dD P T o st fun d res => lD rt0 (dK st.rt res.wr ++ res.new) (gK st.rt (dK st.rt res.wr ++ res.new) (cJ (bY st o.dst d res) fun st' => dQ P T ops c rd rt0 K js lt st') 0 lt) rd (rQ ops c j)) ∨ jC P (aM st.env f) (args.toList.map (aM st.env)) st.rt (fun d rt => lD rt0 rt (gK st.rt rt (cJ ⟨setSlot st.env o.dst d, rt⟩ fun st' => dQ P T ops c rd rt0 K js lt st') 0 lt) rd (rQ ops c j))
   | _ => vS P T ops c rd rt0 j o lt st fun lt' st' => dQ P T ops c rd rt0 K js lt' st')
  | none => False
def Ajl (P : Program) (T : Tab) (env1 : List D) (rt0 : RT) (n : Nat) (rd : List Nat) (o : Oper) : Prop :=
 ∃ d res, (∀ (env' : List D) (rt' : RT), (∀ x ∈ o.op.operands, aM env' x = aM env1 x) → (∀ r ∈ rd, rt' r = rt0 r) → bN P T env' rt' n o.op (· = res)) ∧ res.wr = [] ∧ res.new = [] ∧
  (∀ t, o.dst = some t → t < env1.length → env1.getD t .undef = d) ∧ (∀ (v : Value) (w : World) ok own rt, Mt w ok own rt res.val v → Mt w ok own rt d v)
theorem mem_reads {o : Oper} {t : Nat} (h : Operand.tmp t ∈ o.op.operands) : t ∈ gS o := by
 unfold gS
 exact List.mem_filterMap.2 ⟨.tmp t, by simpa using h, rfl⟩
theorem Aa0 {ops : List Oper} : ∀ (js : List Nat) (st : St) (rd : List Nat) (K : St → List Nat → Prop), vX P T ops js st rd K →
  (js.Pairwise fun i j => ∀ oi oj, ops[i]? = some oi → ops[j]? = some oj → ∀ t, oj.dst = some t → t ∉ gS oi ∧ oi.dst ≠ some t) → (∀ j ∈ js, ∀ o, ops[j]? = some o → ∀ t, o.dst = some t → t ∉ gS o) →
  ∃ st1 rd1, K st1 rd1 ∧ st1.rt = st.rt ∧ st1.env.length = st.env.length ∧ (∀ r ∈ rd, r ∈ rd1) ∧ (∀ x, (∀ j ∈ js, ∀ o, ops[j]? = some o → o.dst ≠ some x) → st1.env.getD x .undef = st.env.getD x .undef) ∧
   ∀ j ∈ js, ∀ o, ops[j]? = some o → Ajl P T st1.env (aQ st.rt) st.rt.length rd1 o
 | [], st, rd, K, h, _, _ => ⟨st, rd, h, rfl, rfl, fun r hr => hr, fun x _ => rfl, fun j hj => (List.not_mem_nil hj).elim⟩
 | j :: js, st, rd, K, h, hpw, hown => by
  unfold vX at h
  split at h
  ·rename_i o ho
   unfold dD at h
   rw [lA] at h
   obtain ⟨res, h1, hev⟩ := tI h
   obtain ⟨hwr, h2⟩ := aO h1
   obtain ⟨d, h3, hd, hn⟩ := Adc h2
   obtain ⟨hemp, h4⟩ := aO h3
   simp only [Bool.and_eq_true, List.isEmpty_iff] at hemp
   rw [gT] at h4
   obtain ⟨hp1, hp2⟩ := List.pairwise_cons.1 hpw
   obtain ⟨st1, rd1, k1, k2, k3, k4, k5, k6⟩ := Aa0 js _ _ K h4 hp2 (fun i hi => hown i (List.mem_cons_of_mem _ hi))
   have hops : ∀ x ∈ o.op.operands, aM st1.env x = aM st.env x := fun x hx => uP (fun t ht => by
    subst ht
    have hr := mem_reads hx
    rw [k5 t (fun i hi oi hoi e => (hp1 i hi o oi ho hoi t e).1 hr)]
    simp only [nH]
    rw [if_neg (fun e => hown j (List.mem_cons_self ..) o ho t e.1 hr)])
   refine ⟨st1, rd1, k1, k2, by simpa using k3, fun r hr => k4 r (List.mem_append.2 (.inl hr)), fun x hx => ?_, fun i hi oi hoi => ?_⟩
   ·rw [k5 x (fun i hi => hx i (List.mem_cons_of_mem _ hi))]
    simp only [nH]
    rw [if_neg (fun e => hx j (List.mem_cons_self ..) o ho e.1)]
   ·rcases List.mem_cons.1 hi with rfl | hi
    ·rw [ho] at hoi; cases hoi
     refine ⟨d, res, fun env' rt' he hr => hev env' rt' (fun x hx => (he x hx).trans (hops x hx)) (fun r hr2 => hr r (k4 r (List.mem_append.2 (.inr hr2)))), hemp.1, hemp.2, fun t ht hlt => ?_, fun v w ok own rt hm => hn v w ok own rt hm hd⟩
     rw [k5 t (fun i' hi' oi' hoi' e => (hp1 i' hi' o oi' ho hoi' t e).2 ht)]
     simp only [nH]
     have e3 : st1.env.length = st.env.length := by simpa using k3
     have hlt' : t < st.env.length := by rw [← e3]; exact hlt
     rw [if_pos ⟨ht, hlt'⟩]
    ·have := k6 i hi oi hoi
     exact this
  ·exact h.elim
theorem Aqy {p : Nat → Bool} {i : Nat} (hp : p i = true) (hlt : ∀ j, j < i → p j = false) : ∀ n, i < n → (List.range n).filter p = i :: (List.range n).filter (fun j => p j && !(j == i))
 | n + 1, hi => by
  rw [List.range_succ, List.filter_append, List.filter_append]
  rcases Nat.lt_or_ge i n with h | h
  ·rw [Aqy hp hlt n h]
   have : [n].filter p = [n].filter (fun j => p j && !(j == i)) := List.filter_congr (fun x hx => by
    have : x = n := by simpa using hx
    subst this
    have : (x == i) = false := by simp; omega
    rw [this]; simp)
   rw [this]; rfl
  ·have e : i = n := by omega
   subst e
   have h1 : (List.range i).filter p = [] := List.filter_eq_nil_iff.2 (fun x hx => by rw [hlt x (List.mem_range.1 hx)]; simp)
   have h2 : (List.range i).filter (fun j => p j && !(j == i)) = [] := List.filter_eq_nil_iff.2 (fun x hx => by rw [hlt x (List.mem_range.1 hx)]; simp)
   rw [h1, h2]
   simp [hp]
theorem W8 {p : Nat → Bool} {i : Nat} (hp : p i = true) : ∀ n, i < n → (List.range n).filter p = (List.range i).filter p ++ i :: (List.range n).filter (fun j => p j && Nat.blt i j) ∧
  (List.range n).filter (fun j => p j && !(j == i)) = (List.range i).filter p ++ (List.range n).filter (fun j => p j && Nat.blt i j)
 | n + 1, hi => by
  have split1 : ∀ q : Nat → Bool, (List.range (n + 1)).filter q = (List.range n).filter q ++ [n].filter q := fun q => by rw [List.range_succ, List.filter_append]
  rcases Nat.lt_or_ge i n with h | h
  ·obtain ⟨h1, h2⟩ := W8 hp n h
   have e1 : [n].filter p = [n].filter (fun j => p j && Nat.blt i j) := List.filter_congr (fun x hx => by
    have : x = n := by simpa using hx
    subst this
    have : Nat.blt i x = true := (by rw [Nat.blt_eq]; exact h)
    rw [this, Bool.and_true])
   have e2 : [n].filter (fun j => p j && !(j == i)) = [n].filter (fun j => p j && Nat.blt i j) := List.filter_congr (fun x hx => by
    have : x = n := by simpa using hx
    subst this
    have h3 : Nat.blt i x = true := (by rw [Nat.blt_eq]; exact h)
    have h4 : (x == i) = false := by simp; omega
    rw [h3, h4]; rfl)
   rw [split1, split1, split1, h1, h2, e1, e2]
   simp [List.append_assoc]
  ·have e : i = n := by omega
   subst e
   have z : (List.range (i + 1)).filter (fun j => p j && Nat.blt i j) = [] := List.filter_eq_nil_iff.2 (fun x hx => by
    have hx2 := List.mem_range.1 hx
    have : Nat.blt i x = false := by cases hb : Nat.blt i x with
     | false => rfl
     | true => rw [Nat.blt_eq] at hb; omega
    rw [this]; simp)
   have e1 : [i].filter p = [i] := by simp [hp]
   have e2 : [i].filter (fun j => p j && !(j == i)) = [] := by simp
   have e3 : (List.range i).filter (fun j => p j && !(j == i)) = (List.range i).filter p := List.filter_congr (fun x hx => by
    have hx2 := List.mem_range.1 hx
    have : (x == i) = false := by simp; omega
    rw [this]; simp)
   rw [z, split1, split1, e1, e2, e3]
   simp
theorem Z7 {env : List D} {dst : Option Nat} {d : D} {x : Operand} (h : ∀ t, dst = some t → x ≠ .tmp t) : aM (setSlot env dst d) x = aM env x := uP (fun t ht => by
 rw [nH, if_neg (fun e => h t e.1 ht)])
theorem Arv {env : List D} {a b : Option Nat} {d e : D} (h : ∀ t, a = some t → b ≠ some t) : setSlot (setSlot env a d) b e = setSlot (setSlot env b e) a d := by
 cases a with
 | none => rfl
 | some i =>
  cases b with
  | none => rfl
  | some k =>
   have : i ≠ k := fun e2 => h i rfl (by rw [e2])
   simp only [setSlot]
   exact List.set_comm _ _ this
theorem Afm {rt0 rt : List (Option Root)} {p q : Prop} : ∀ {l : List Nat}, xB rt0 rt p l → q → xB rt0 rt q l
 | [], _, hq => hq
 | r :: rs, h, hq => ⟨h.1, Afm h.2 hq⟩
theorem Acj {rt0 rt : List (Option Root)} {p q : Prop} {rd : List Nat} : ∀ {b b' : Bool}, lD rt0 rt p rd b → (b = true → b' = true) → q → lD rt0 rt q rd b'
 | true, b', h, hb, hq => by rw [hb rfl]; exact hq
 | false, true, h, _, hq => hq
 | false, false, h, _, hq => Afm h hq
theorem Ab6 {d : D} {k : D → Prop} (h : iS d k) : ∃ d', k d' ∧ ∀ k' : D → Prop, k' d' → iS d k' := by
 unfold iS at h
 split at h
 ·rename_i b
  cases b with
  | true => exact ⟨.kb true, h.1 rfl, fun k' h' => And.intro (fun _ => h') (fun e => Bool.noConfusion e)⟩
  | false => exact ⟨.kb false, h.2 rfl, fun k' h' => And.intro (fun e => Bool.noConfusion e) (fun _ => h')⟩
 ·rename_i hno
  refine ⟨d, h, fun k' h' => ?_⟩
  unfold iS
  split
  ·rename_i b; exact absurd rfl (hno b)
  ·exact h'
theorem Aqx {o : Oper} (hl : lY o = true) {env : List D} {rt : RT} {n n' : Nat} {K : Res → Prop} (h : bN P T env rt n o.op K) : bN P T env rt n' o.op K := by
 unfold lY at hl
 split at hl
 ·rename_i hop; rw [hop] at h ⊢; exact h
 ·rename_i hop; rw [hop] at h ⊢; exact h
 ·rename_i hop; rw [hop] at h ⊢; exact h
 ·cases hl
theorem Al8 {o : Oper} (hl : lY o = true) : qJ o = true := by
 unfold lY at hl
 unfold qJ
 split at hl
 ·rename_i hop; rw [hop]
 ·rename_i hop; rw [hop]
 ·rename_i hop; rw [hop]
 ·cases hl
theorem Aja {rt : List (Option Root)} {res : Res} (h : res.wr = []) : tL rt res = true := by
 unfold tL
 rw [h]; rfl
theorem Acg {o : Oper} (hl : lY o = true) {st : St} {K : D → Res → Prop} (h : dD P T o st fun d res => chk (res.wr.isEmpty && res.new.isEmpty) (K d res)) :
  ∃ (v : D) (res : Res), res.wr = [] ∧ res.new = [] ∧ K v res ∧ ∀ st' : St, (∀ x ∈ o.op.operands, aM st'.env x = aM st.env x) → (∀ r ∈ res.rd, st'.rt[r]? = st.rt[r]?) → ∀ K' : D → Res → Prop, K' v res → dD P T o st' fun d res => chk (res.wr.isEmpty && res.new.isEmpty) (K' d res) := by
 unfold dD at h
 rw [lA] at h
 obtain ⟨res, h1, hev⟩ := tI h
 obtain ⟨hwr, h2⟩ := aO h1
 obtain ⟨d, h3, hnb⟩ := Ab6 h2
 obtain ⟨hemp, h4⟩ := aO h3
 have hemp2 := hemp
 simp only [Bool.and_eq_true, List.isEmpty_iff] at hemp2
 refine ⟨d, res, hemp2.1, hemp2.2, h4, fun st' he hr K' hK' => ?_⟩
 unfold dD
 rw [lA]
 refine Aa8 (Al8 hl) (Aqx hl (hev st'.env (aQ st'.rt) he (fun r hr2 => ?_))) (fun res' e => ?_)
 ·unfold aQ; simp only [List.getD_eq_getElem?_getD, hr r hr2]
 ·subst e
  exact aS (Aja hemp2.1) (hnb _ (aS hemp hK'))
theorem cM.mono {P : Program} {g kp : Nat} {args : List D} {rt : List (Option Root)} {K K' : D → List (Option Root) → Prop} (h : cM P g kp args rt K) (hK : ∀ d rt', K d rt' → K' d rt') : cM P g kp args rt K' := by
 obtain ⟨fn, c, h1, h2, h3, h4⟩ := h
 exact ⟨fn, c, h1, h2, h3, fun w0 env tm w own vals x1 x2 x3 x4 x5 x6 => wp_mono (h4 w0 env tm w own vals x1 x2 x3 x4 x5 x6) (fun e a' w' ⟨q1, q2, v, d, rt', own', q3, q4, q5, q6⟩ => ⟨q1, q2, v, d, rt', own', q3, hK _ _ q4, q5, q6⟩)⟩
theorem Ar6 {P : Program} {f : D} {args : List D} {rt : List (Option Root)} {K K' : D → List (Option Root) → Prop} (h : jC P f args rt K) (hK : ∀ d rt', K d rt' → K' d rt') : jC P f args rt K' := by
 unfold jC at h ⊢
 split at h
 ·exact cM.mono h hK
 ·exact h.elim
theorem Y3 {ops : List Oper} {c : Nat → Bool} {rd : List Nat} {rt0 : List (Option Root)} {K : St → Prop} {i : Nat} {oi : Oper} (hi : ops[i]? = some oi) (hnc : qJ oi = true) {post : List Nat} :
  ∀ (pre : List Nat) (lt : List Bool) (st : St), (∀ j ∈ pre, ∃ oj, ops[j]? = some oj ∧ B1 ops c j i oj oi ∧ (∀ t, oj.dst = some t → oi.dst ≠ some t) ∧ qX ops c j = true) → dQ P T ops c rd rt0 K (pre ++ i :: post) lt st → dQ P T ops c rd rt0 K (i :: (pre ++ post)) lt st
 | [], lt, st, _, h => h
 | j :: pre, lt, st, hp, h => by
  obtain ⟨oj, hj, ⟨hl, _, hr1, hr2⟩, hdd, hfr⟩ := hp j List.mem_cons_self
  have hlc : ∀ (js : List Nat) (lt : List Bool) (st : St), dQ P T ops c rd rt0 K (j :: js) lt st = dD P T oj st (fun d res => chk (res.wr.isEmpty && res.new.isEmpty) (dQ P T ops c rd rt0 K js (eX lt res.rd) (bY st oj.dst d res))) := fun js lt st => by
   conv => lhs; unfold dQ
   rw [hj]
   simp only
   split
   ·rename_i f args ts hop
    unfold lY at hl; rw [hop] at hl; cases hl
   ·unfold vS
    rw [hl, hfr]
    simp only [A8, gT]
  rw [List.cons_append, hlc] at h
  obtain ⟨v, resj, hjw, hjn, hv, hrun⟩ := Acg hl h
  have ih := Y3 hi hnc pre _ _ (fun j' hj' => hp j' (List.mem_cons_of_mem _ hj')) hv
  have hev0 : ∀ x ∈ oi.op.operands, aM st.env x = aM (bY st oj.dst v resj).env x := fun x hx => by
   refine (Z7 (fun t ht e => ?_)).symm
   subst e
   exact hr1 t ht (mem_reads hx)
  have ert : (bY st oj.dst v resj).rt = st.rt := by simp [bY, dK, hjw, hjn]
  have eenv : (bY st oj.dst v resj).env = setSlot st.env oj.dst v := rfl
  have hfin : ∀ (d : D) (rt : List (Option Root)) (lt2 : List Bool), (∀ r ∈ resj.rd, rt[r]? = st.rt[r]?) → dQ P T ops c rd rt0 K (pre ++ post) (eX lt2 resj.rd) ⟨setSlot (bY st oj.dst v resj).env oi.dst d, rt⟩ → dQ P T ops c rd rt0 K (j :: (pre ++ post)) lt2 ⟨setSlot st.env oi.dst d, rt⟩ := fun d rt lt2 hk h5 => by
   rw [hlc]
   refine hrun _ (fun x hx => Z7 (fun t ht e => ?_)) hk _ ?_
   ·subst e
    exact hr2 t ht (mem_reads hx)
   ·have e3 : bY (⟨setSlot st.env oi.dst d, rt⟩ : St) oj.dst v resj = ⟨setSlot (bY st oj.dst v resj).env oi.dst d, rt⟩ := by
     unfold bY
     simp only [dK, hjw, hjn, List.append_nil]
     rw [Arv (fun t ht => fun e => hdd t e ht)]
    rw [e3]; exact h5
  have hkm : ∀ (rt : List (Option Root)) (p q : Prop), gK st.rt rt p 0 (eX lt resj.rd) → ((∀ r ∈ resj.rd, rt[r]? = st.rt[r]?) → p → q) → gK st.rt rt q 0 lt := fun rt p q h hpq => by
   obtain ⟨h1, h2⟩ := sQ.1 h
   simp only [V5, Bool.or_eq_true, List.contains_iff_mem, Nat.zero_add] at h1
   exact sQ.2 ⟨fun r hr => by rw [Nat.zero_add]; exact h1 r (.inr hr), hpq (fun r hr => h1 r (.inl hr)) h2⟩
  have hrunC : ∀ b : Bool, (dD P T oi (bY st oj.dst v resj) fun d res => lD rt0 (dK (bY st oj.dst v resj).rt res.wr ++ res.new) (gK (bY st oj.dst v resj).rt (dK (bY st oj.dst v resj).rt res.wr ++ res.new) (cJ (bY (bY st oj.dst v resj) oi.dst d res) fun st' => dQ P T ops c rd rt0 K (pre ++ post) (eX lt resj.rd) st') 0 (eX lt resj.rd)) rd b) →
    dD P T oi st fun d res => lD rt0 (dK st.rt res.wr ++ res.new) (gK st.rt (dK st.rt res.wr ++ res.new) (cJ (bY st oi.dst d res) fun st' => dQ P T ops c rd rt0 K (j :: (pre ++ post)) lt st') 0 lt) rd b := fun b ih => by
   unfold dD at ih
   rw [lA] at ih
   obtain ⟨res, h1, hev⟩ := tI ih
   obtain ⟨hwr, h2⟩ := aO h1
   obtain ⟨d, h3, hnb⟩ := Ab6 h2
   rw [ert] at hev hwr h3
   obtain ⟨_, h5⟩ := B9 h3
   have hev2 := hev st.env (aQ st.rt) hev0 (fun r _ => rfl)
   unfold dD
   rw [lA]
   refine Aa8 hnc hev2 (fun res' e => ?_)
   subst e
   refine aS hwr (hnb _ (Acj h3 (fun h => h) (hkm _ _ _ h5 (fun hk h6 => ?_))))
   rw [gT] at h6 ⊢
   have e4 : (bY (bY st oj.dst v resj) oi.dst d res') = ⟨setSlot (bY st oj.dst v resj).env oi.dst d, dK st.rt res'.wr ++ res'.new⟩ := by
    unfold bY; simp [dK, hjw, hjn]
   rw [e4] at h6
   exact hfin d _ lt hk h6
  rw [List.cons_append]
  by_cases hcall : ∃ f args ts, oi.op = .call { callee := .value f, args := args, argTypes := ts }
  ·obtain ⟨f, args, ts, hop⟩ := hcall
   have hicC : ∀ (js : List Nat) (lt : List Bool) (st : St), dQ P T ops c rd rt0 K (i :: js) lt st = ((dD P T oi st fun d res => lD rt0 (dK st.rt res.wr ++ res.new) (gK st.rt (dK st.rt res.wr ++ res.new) (cJ (bY st oi.dst d res) fun st' => dQ P T ops c rd rt0 K js lt st') 0 lt) rd (rQ ops c i)) ∨ jC P (aM st.env f) (args.toList.map (aM st.env)) st.rt (fun d rt => lD rt0 rt (gK st.rt rt (cJ ⟨setSlot st.env oi.dst d, rt⟩ fun st' => dQ P T ops c rd rt0 K js lt st') 0 lt) rd (rQ ops c i))) := fun js lt st => by
    conv => lhs; unfold dQ
    rw [hi]
    simp only [hop]
   rw [hicC] at ih ⊢
   rcases ih with ih | ih
   ·exact .inl (hrunC _ ih)
   ·refine .inr ?_
    have e1 : aM (bY st oj.dst v resj).env f = aM st.env f := (hev0 f (by rw [hop]; simp [Op.operands, Call.operands])).symm
    have e2 : args.toList.map (aM (bY st oj.dst v resj).env) = args.toList.map (aM st.env) := List.map_congr_left (fun x hx => (hev0 x (by rw [hop]; simp [Op.operands, Call.operands]; first | exact .inr (by simpa using hx) | simpa using hx)).symm)
    rw [e1, e2, ert] at ih
    refine Ar6 ih (fun d rt hq => Acj hq (fun h => h) ?_)
    obtain ⟨_, h5⟩ := B9 hq
    refine hkm _ _ _ h5 (fun hk h6 => ?_)
    rw [gT] at h6 ⊢
    exact hfin d rt lt hk h6
  ·have hic : ∀ (js : List Nat) (lt : List Bool) (st : St), dQ P T ops c rd rt0 K (i :: js) lt st = vS P T ops c rd rt0 i oi lt st fun lt' st' => dQ P T ops c rd rt0 K js lt' st' := fun js lt st => by
    conv => lhs; unfold dQ
    rw [hi]
    simp only
    split
    ·rename_i f args ts hop
     exact absurd ⟨f, args, ts, hop⟩ hcall
    ·rfl
   rw [hic] at ih ⊢
   unfold vS at ih ⊢
   cases hli : lY oi with
   | false => rw [hli] at ih; exact hrunC _ ih
   | true =>
    rw [hli] at ih
    simp only at ih ⊢
    obtain ⟨vi, resi, hiw, hin, hiv, hruni⟩ := Acg hli ih
    refine hruni _ (fun x hx => hev0 x hx) (fun r _ => by rw [ert]) _ ?_
    rw [Y9, gT] at hiv ⊢
    have e5 : bY st oi.dst vi resi = ⟨setSlot st.env oi.dst vi, st.rt⟩ := by unfold bY; simp [dK, hiw, hin]
    have e6 : bY (bY st oj.dst v resj) oi.dst vi resi = ⟨setSlot (bY st oj.dst v resj).env oi.dst vi, st.rt⟩ := by unfold bY; simp [dK, hiw, hin, hjw, hjn]
    rw [e5]
    rw [e6] at hiv
    refine hfin vi st.rt _ (fun r _ => rfl) ?_
    have e7 : H5 (qX ops c i) (eX lt resj.rd) resi.rd = eX (H5 (qX ops c i) lt resi.rd) resj.rd := by
     cases qX ops c i with
     | true => exact Afl _ _ _
     | false => rfl
    rw [← e7]; exact hiv
theorem Amd {rt : RT} {n : Nat} {res : Res} (h1 : res.wr = []) (h2 : res.new = []) : cS rt n res = rt := by
 unfold cS
 rw [h1, h2]
 funext q
 unfold fG cW
 rw [if_neg (by simp)]
theorem pS {ops : Array Oper} {c : Nat → Bool} (h : zF ops c = true) {j : Nat} {oj : Oper} (hj : ops[j]? = some oj) :
  oj.guard = none ∧ (∀ t, oj.dst = some t → t ∉ gS oj) ∧ (∀ e ∈ oj.after.toList, Region.binds .any e = true → e.on < j) ∧
  ∀ i oi, i < j → ops[i]? = some oi → ((∀ t, oj.dst = some t → t ∉ gS oi) ∨ (c j = true ∧ c i = false ∧ ((eE ops.toList).getD j 0).testBit i = true)) ∧ (∀ t, oi.dst = some t → oj.dst ≠ some t) ∧ (c i = true → c j = true → ((eE ops.toList).getD j 0).testBit i = true ∨ B1 ops.toList c i j oi oj) ∧
   (c i = true → c j = false → ∀ t, oi.dst = some t → t ∉ gS oj) ∧ (c i = false → ∀ t, oi.dst = some t → t ∈ gS oj → ((eE ops.toList).getD j 0).testBit i = true) := by
 have hjl : j < ops.size := (Array.getElem?_eq_some_iff.1 hj).1
 have h1 := List.all_eq_true.1 h j (List.mem_range.2 hjl)
 simp only [hj, Bool.and_eq_true] at h1
 obtain ⟨⟨h2, h3⟩, h4, h5⟩ := h1
 refine ⟨by simpa using h2, fun t ht => uL (by simpa using h3) ht, fun e he hb => ?_, fun i oi hi hoi => ?_⟩
 ·have h6 := List.all_eq_true.1 h4 e he
  simp only [hb, Bool.not_true, Bool.false_or, Nat.blt_eq] at h6
  exact h6
 ·have h6 := List.all_eq_true.1 h5 i (List.mem_range.2 hi)
  simp only [hoi, Aeh, Bool.and_eq_true] at h6
  obtain ⟨⟨⟨⟨a1, a2⟩, a3⟩, a4⟩, a5⟩ := h6
  refine ⟨?_, fun t ht e => ?_, fun ci cj => ?_, fun ci cj t ht => ?_, fun ci t ht hm => ?_⟩
  ·simp only [Bool.or_eq_true, Bool.and_eq_true, Bool.not_eq_true'] at a1
   rcases a1 with a1 | ⟨b1, b2, b3⟩
   ·exact .inl (fun t ht => uL a1 ht)
   ·exact .inr ⟨b1, b2, b3⟩
  ·rw [ht, e] at a2; simp at a2
  ·rw [ci, cj] at a3
   simp only [Bool.and_self, Bool.not_true, Bool.false_or, Bool.or_eq_true] at a3
   exact a3.imp (fun h => h) Ao8
  ·rw [ci, cj] at a4; exact uL (by simpa using a4) ht
  ·rw [ci] at a5
   simp only [Bool.false_or, Bool.or_eq_true] at a5
   rcases a5 with a5 | a5
   ·exact absurd hm (uL (by simpa using a5) ht)
   ·exact a5
open Classical in
noncomputable def iG (ops : Array Oper) (c S : Nat → Bool) (env : List D) (x : Nat) : D := if ∃ j o, c j = false ∧ S j = false ∧ ops[j]? = some o ∧ o.dst = some x then .undef else env.getD x .undef
theorem An6 (hT : TabOk P T) (hm : P.follows .mixedOrders = true) {kp id : Nat} {ops : Array Oper} {c : Nat → Bool} {K : St → Prop} {st : St} {Q : Exit → St → Prop} (hok : zF ops c = true)
  (h : vX P T ops.toList ((List.range ops.size).filter fun j => !(c j)) st [] (fun st1 rd => dQ P T ops.toList c rd st.rt K ((List.range ops.size).filter c) [] st1)) (hK : ∀ st', K st' → Q .normal st') : dJ P kp (.region id ops true) Q st := by
 have mem_p : ∀ {j : Nat}, j ∈ (List.range ops.size).filter (fun j => !(c j)) ↔ j < ops.size ∧ c j = false := fun {j} => by simp
 have hops : ∀ {j : Nat} {o : Oper}, ops.toList[j]? = some o → ops[j]? = some o := fun h => by simpa using h
 obtain ⟨st1, rd1, hch, k2, k3, _, kx, k6⟩ := Aa0 _ _ _ _ h (by
  refine List.pairwise_filter.2 ?_
  refine (List.pairwise_lt_range (n := ops.size)).imp ?_
  intro i j hij hpi hpj oi oj hoi hoj t ht
  obtain ⟨_, _, _, hp⟩ := pS hok (hops hoj)
  obtain ⟨a1, a2, _⟩ := hp i oi hij (hops hoi)
  refine ⟨?_, fun e => a2 t e ht⟩
  rcases a1 with a1 | ⟨b1, _⟩
  ·exact a1 t ht
  ·rw [b1] at hpj; simp at hpj) (fun j hj o ho t ht => (pS hok (hops ho)).2.1 t ht)
 intro w0 a w hkp hf
 obtain ⟨own, hd, hl, hs⟩ := hf
 let sOf : Array Bool → Nat → Bool := fun listed k => listed.getD k false
 have key : ∀ (fuel : Nat) (listed : Array Bool) (a : Act) (w : World) (cur : St) (lt : List Bool), listed.size = ops.size → (List.range ops.size).countP (fun i => !listed.getD i true) ≤ fuel →
   (∀ k o, sOf listed k = true → ops[k]? = some o → ∀ e ∈ o.after.toList, Region.binds .any e = true → sOf listed e.on = true) →
   dQ P T ops.toList c rd1 st.rt K ((List.range ops.size).filter fun j => c j && !(sOf listed j)) lt cur → ((∀ r ∈ rd1, cur.rt[r]? = st.rt[r]?) ∨ ∀ k o, c k = false → ops[k]? = some o → sOf listed k = true) → cur.env.length = st1.env.length →
   (∀ j o, c j = false → sOf listed j = false → ops[j]? = some o → (∀ t, o.dst = some t → cur.env.getD t .undef = st1.env.getD t .undef) ∧ ∀ x ∈ o.op.operands, aM cur.env x = aM st1.env x) →
   (∃ (own : Nat → Option Lab) (envS : List D), a.defers = [] ∧ envS.length = a.tmps.size ∧ envS.length = cur.env.length ∧ (∀ x, envS.getD x .undef = iG ops c (sOf listed) cur.env x) ∧ Sim w0 (fun i => envS.getD i .undef) (aQ cur.rt) (fun i => a.tmps.getD i Go.undef) w own) →
   wpAny P .any ops (fun e a' w' => ∃ st', Fits w0 st' a' w' ∧ Q e st') fuel listed a w := by
  intro fuel
  have done : ∀ (listed : Array Bool) (a : Act) (w : World) (cur : St) (lt : List Bool), listed.size = ops.size → Region.ready .any ops listed = [] →
    dQ P T ops.toList c rd1 st.rt K ((List.range ops.size).filter fun j => c j && !(sOf listed j)) lt cur →
    (∃ (own : Nat → Option Lab) (envS : List D), a.defers = [] ∧ envS.length = a.tmps.size ∧ envS.length = cur.env.length ∧ (∀ x, envS.getD x .undef = iG ops c (sOf listed) cur.env x) ∧ Sim w0 (fun i => envS.getD i .undef) (aQ cur.rt) (fun i => a.tmps.getD i Go.undef) w own) →
    ∃ st', Fits w0 st' a w ∧ Q .normal st' := by
   intro listed a w cur lt hsz hr hc ⟨own, envS, k1, k2, k3, k4, k5⟩
   have hall : ∀ i, i < ops.size → sOf listed i = true := by
    intro i
    induction i using Nat.strongRecOn with
    | _ i ih =>
     intro hi
     cases hsi : sOf listed i with
     | true => rfl
     | false =>
      have hmem : i ∈ Region.ready .any ops listed := by
       rw [mem_ready]
       have hi2 : i < listed.size := by omega
       refine ⟨?_, ops[i], Array.getElem?_eq_getElem hi, fun e he hb => ?_⟩
       ·simp only [sOf] at hsi
        simp only [Array.getD_eq_getD_getElem?, Array.getElem?_eq_getElem hi2, Option.getD_some] at hsi ⊢
        exact hsi
       ·have hlt := (pS hok (Array.getElem?_eq_getElem hi)).2.2.1 e (by simpa using he) hb
        exact ih e.on hlt (by omega)
      rw [hr] at hmem; cases hmem
   have hnil : ((List.range ops.size).filter fun j => c j && !(sOf listed j)) = [] := List.filter_eq_nil_iff.2 (fun j hj => by
    rw [hall j (List.mem_range.1 hj)]; simp)
   rw [hnil] at hc
   refine ⟨cur, ⟨own, k1, by rw [← k3]; exact k2, ?_⟩, hK cur hc⟩
   have e1 : (fun i => cur.env.getD i .undef) = (fun i => envS.getD i .undef) := by
    funext x
    rw [k4 x]
    unfold iG
    rw [if_neg]
    rintro ⟨j, o, _, hsj, ho, _⟩
    rw [hall j (Array.getElem?_eq_some_iff.1 ho).1] at hsj
    cases hsj
   rw [e1]; exact k5
  induction fuel with
  | zero =>
   intro listed a w cur lt hsz hcnt hcl hch _ _ _ hst
   have hr : Region.ready .any ops listed = [] := by
    refine List.eq_nil_iff_forall_not_mem.2 fun i hi => ?_
    obtain ⟨h1, o, ho, _⟩ := mem_ready.1 hi
    have hlt := (Array.getElem?_eq_some_iff.1 ho).1
    have : 0 < (List.range ops.size).countP (fun i => !listed.getD i true) := List.countP_pos_iff.2 ⟨i, List.mem_range.2 hlt, by rw [h1]; rfl⟩
    omega
   exact ⟨hr, done listed a w cur lt hsz hr hch hst⟩
  | succ fuel ih =>
   intro listed a w cur lt hsz hcnt hcl hch hrd hcl2 hpu hst
   refine ⟨fun hr => done listed a w cur lt hsz hr hch hst, fun i hi => ?_⟩
   obtain ⟨hun, o, ho, hedges⟩ := mem_ready.1 hi
   have hlt := (Array.getElem?_eq_some_iff.1 ho).1
   have hSi : sOf listed i = false := by
    simp only [sOf]
    have hi2 : i < listed.size := by omega
    simp only [Array.getD_eq_getD_getElem?, Array.getElem?_eq_getElem hi2, Option.getD_some] at hun ⊢
    exact hun
   obtain ⟨own, envS, k1, k2, k3', k4, k5⟩ := hst
   obtain ⟨hgd, hownr, hafter, hpairs⟩ := pS hok ho
   have hcl' : ∀ k o', cA (sOf listed) i k = true → ops.toList[k]? = some o' → ∀ e ∈ o'.after.toList, Region.binds .any e = true → cA (sOf listed) i e.on = true := by
    intro k o' hk ho' e he hb
    have ho2 : ops[k]? = some o' := by simpa using ho'
    unfold cA at hk ⊢
    simp only [Bool.or_eq_true, beq_iff_eq] at hk ⊢
    rcases hk with rfl | hk
    ·rw [ho] at ho2; cases ho2
     right; exact hedges e (by simpa using he) hb
    ·right; exact hcl k o' hk ho2 e he hb
   have bit1 : ∀ j, j ≠ i → ((eE ops.toList).getD i 0).testBit j = true → sOf listed j = true := by
    intro j hj hb
    have := rZ (ops := ops.toList) (S := cA (sOf listed) i) hcl' ops.toList [] (fun k o' h => by simpa using h) (fun k j _ h => by simp at h) i j (by simp [cA]) hb
    unfold cA at this
    simpa [hj] using this
   have hS' : ∀ k, k < ops.size → sOf (listed.setIfInBounds i true) k = cA (sOf listed) i k := by
    intro k hkl
    simp only [sOf, cA]
    by_cases hki : k = i
    ·subst hki
     simp only [Array.getD_eq_getD_getElem?]
     rw [Array.getElem?_setIfInBounds_self_of_lt (by omega)]; simp
    ·simp only [Array.getD_eq_getD_getElem?]
     rw [Array.getElem?_setIfInBounds_ne (Ne.symm hki)]
     simp [hki]
   -- what the operation looks at is told
   have hope : ∀ x ∈ o.op.operands, aM envS x = aM cur.env x := fun x hx => uP (fun t ht => by
    subst ht
    have hr := mem_reads hx
    rw [k4 t]
    unfold iG
    rw [if_neg]
    rintro ⟨j, oj, hcj, hsj, hoj, hdj⟩
    rcases Nat.lt_trichotomy j i with hji | hji | hji
    ·have := (hpairs j oj hji hoj).2.2.2.2 hcj t hdj hr
     rw [bit1 j (by omega) this] at hsj; cases hsj
    ·subst hji
     rw [ho] at hoj; cases hoj
     exact hownr t hdj hr
    ·rcases ((pS hok hoj).2.2.2 i o hji ho).1 with q | ⟨q, _⟩
     ·exact q t hdj hr
     ·rw [hcj] at q; cases q)
   have hdst : ∀ j oj, j ≠ i → ops[j]? = some oj → ∀ t, o.dst = some t → oj.dst ≠ some t := fun j oj hji hoj t ht e => by
    rcases Nat.lt_or_ge j i with h1 | h1
    ·exact (hpairs j oj h1 hoj).2.1 t e ht
    ·exact ((pS hok hoj).2.2.2 i o (by omega) ho).2.1 t ht e
   have hcnt' : (List.range ops.size).countP (fun k => !(listed.setIfInBounds i true).getD k true) ≤ fuel := by
    have hc : (List.range ops.size).countP (fun k => !(listed.setIfInBounds i true).getD k true) < (List.range ops.size).countP (fun k => !listed.getD k true) := by
     refine M0 _ _ _ (fun k hk hq => ?_) ⟨i, List.mem_range.2 hlt, by rw [hun]; rfl, ?_⟩
     ·by_cases hki : k = i
      ·subst hki; rw [hun]; rfl
      ·have := getD_set_ne (listed := listed) true (Ne.symm hki)
       rw [this] at hq; exact hq
     ·simp only [Array.getD_eq_getD_getElem?]
      rw [Array.getElem?_setIfInBounds_self_of_lt (by omega)]; rfl
    omega
   have hcl'' : ∀ k o', sOf (listed.setIfInBounds i true) k = true → ops[k]? = some o' → ∀ e ∈ o'.after.toList, Region.binds .any e = true → sOf (listed.setIfInBounds i true) e.on = true := fun k o' hk ho' e' he' hb => by
    have hkl := (Array.getElem?_eq_some_iff.1 ho').1
    rw [hS' k hkl] at hk
    have h1 := hcl' k o' hk (by simpa using ho') e' he' hb
    have hlt' := (pS hok ho').2.2.1 e' he' hb
    rw [hS' e'.on (by omega)]; exact h1
   -- slots after the operation
   have hmask : ∀ (d : D) (env2 : List D), (∀ t, o.dst ≠ some t → env2.getD t .undef = cur.env.getD t .undef) → (∀ t, o.dst = some t → t < envS.length → env2.getD t .undef = d) → env2.length = cur.env.length →
     ∀ x, (setSlot envS o.dst d).getD x .undef = iG ops c (sOf (listed.setIfInBounds i true)) env2 x := fun d env2 h1 h2 h3 x => by
    rw [nH]
    by_cases hx : o.dst = some x
    ·have hno : ¬ ∃ j oj, c j = false ∧ sOf (listed.setIfInBounds i true) j = false ∧ ops[j]? = some oj ∧ oj.dst = some x := by
      rintro ⟨j, oj, _, hsj, hoj, hdj⟩
      by_cases hji : j = i
      ·subst hji
       rw [hS' j hlt] at hsj
       simp [cA] at hsj
      ·exact hdst j oj hji hoj x hx hdj
     unfold iG
     rw [if_neg hno]
     by_cases hxl : x < envS.length
     ·rw [if_pos ⟨hx, hxl⟩, h2 x hx hxl]
     ·rw [if_neg (fun e => hxl e.2), List.getD_eq_getElem?_getD, List.getElem?_eq_none (by omega), List.getD_eq_getElem?_getD, List.getElem?_eq_none (by omega)]
    ·rw [if_neg (fun e => hx e.1), k4 x]
     unfold iG
     have hiff : (∃ j oj, c j = false ∧ sOf listed j = false ∧ ops[j]? = some oj ∧ oj.dst = some x) ↔ ∃ j oj, c j = false ∧ sOf (listed.setIfInBounds i true) j = false ∧ ops[j]? = some oj ∧ oj.dst = some x := by
      constructor
      ·rintro ⟨j, oj, h4, h5, h6, h7⟩
       have hji : j ≠ i := fun e => by subst e; rw [ho] at h6; cases h6; exact hx h7
       refine ⟨j, oj, h4, ?_, h6, h7⟩
       rw [hS' j (Array.getElem?_eq_some_iff.1 h6).1]
       simp [cA, hji, h5]
      ·rintro ⟨j, oj, h4, h5, h6, h7⟩
       refine ⟨j, oj, h4, ?_, h6, h7⟩
       rw [hS' j (Array.getElem?_eq_some_iff.1 h6).1] at h5
       simp only [cA, Bool.or_eq_false_iff] at h5
       exact h5.2
     by_cases hu : ∃ j oj, c j = false ∧ sOf listed j = false ∧ ops[j]? = some oj ∧ oj.dst = some x
     ·rw [if_pos hu, if_pos (hiff.1 hu)]
     ·rw [if_neg hu, if_neg (fun e => hu (hiff.2 e)), h1 x hx]
   have hwant : Region.wanted o (yielded ops a.tmps) = true := oG k5 (by unfold fX; rw [hgd])
   unfold wpOp
   simp only [ho]
   rw [hwant]
   simp only [if_true]
   refine .inl ?_
   cases hci : c i with
   | false =>
    obtain ⟨d, res, hev, hwr, hnw, hds, hn⟩ := k6 i (mem_p.2 ⟨hlt, hci⟩) o (by simpa using ho)
    have hfil : ((List.range ops.size).filter fun j => c j && !(sOf (listed.setIfInBounds i true) j)) = ((List.range ops.size).filter fun j => c j && !(sOf listed j)) := List.filter_congr (fun j hj => by
     rw [hS' j (List.mem_range.1 hj)]
     by_cases hji : j = i
     ·subst hji; rw [hci]; rfl
     ·have e : (j == i) = false := by simpa using hji
      simp only [cA, e, Bool.false_or])
    refine tB hT k5 (fun res' hres r h1 h2 => ?_) (fun res' v w' own' hres hsim hmt => ?_) (hev envS (aQ cur.rt) (fun x hx => (hope x hx).trans ((hpu i o hci hSi ho).2 x hx)) (fun r hr => (hrd.resolve_right (fun h9 => by rw [h9 i o hci ho] at hSi; cases hSi)) r hr))
    ·subst hres; rw [hnw] at h2; simp at h2; omega
    ·subst hres
     rw [Amd hwr hnw] at hsim hmt
     refine ih _ _ _ cur lt (by simpa using hsz) hcnt' hcl'' (by rw [hfil]; exact hch) (hrd.imp (fun q => q) (fun h9 k ok h1 h2 => by rw [hS' k (Array.getElem?_eq_some_iff.1 h2).1]; simp [cA, h9 k ok h1 h2])) hcl2 (fun j oj h1 h2 h3 => hpu j oj h1 (by rw [hS' j (Array.getElem?_eq_some_iff.1 h3).1] at h2; unfold cA at h2; simp only [Bool.or_eq_false_iff] at h2; exact h2.2) h3) ⟨own', setSlot envS o.dst d, by simpa using k1, by simpa using k2, by simpa using k3', hmask d cur.env (fun t _ => rfl) (fun t ht hl' => ?_) rfl, hsim.putSlot k2 o.dst (hn v w' _ _ _ hmt)⟩
     rw [(hpu i o hci hSi ho).1 t ht]
     exact hds t ht (by rw [← hcl2, ← k3']; exact hl')
   | true =>
    obtain ⟨hat1, hat2⟩ := W8 (p := fun j => c j && !(sOf listed j)) (i := i) (by rw [hci, hSi]; rfl) ops.size hlt
    have hhead : dQ P T ops.toList c rd1 st.rt K (i :: (List.range ops.size).filter fun j => (c j && !(sOf listed j)) && !(j == i)) lt cur := by
     rw [hat2]
     rw [hat1] at hch
     have hpre : ∀ j ∈ (List.range i).filter (fun j => c j && !(sOf listed j)), ∃ oj, ops.toList[j]? = some oj ∧ B1 ops.toList c j i oj o ∧ (∀ t, oj.dst = some t → o.dst ≠ some t) ∧ qX ops.toList c j = true := fun j hj => by
      obtain ⟨hj1, hj2⟩ := List.mem_filter.1 hj
      have hj1 := List.mem_range.1 hj1
      simp only [Bool.and_eq_true, Bool.not_eq_true'] at hj2
      have hjl : j < ops.size := by omega
      have hp := hpairs j ops[j] hj1 (Array.getElem?_eq_getElem hjl)
      have hnb : ((eE ops.toList).getD i 0).testBit j = false := by
       cases hb9 : ((eE ops.toList).getD i 0).testBit j with
       | false => rfl
       | true =>
        have := bit1 j (by omega) hb9
        rw [hj2.2] at this; cases this
      refine ⟨ops[j], by simp, ?_, hp.2.1, Aap hci hj1 hnb _ (by simpa using hlt)⟩
      rcases hp.2.2.1 hj2.1 hci with h9 | h9
      ·rw [hnb] at h9; cases h9
      ·exact h9
     cases hpl : (List.range i).filter (fun j => c j && !(sOf listed j)) with
     | nil => rw [hpl] at hch; exact hch
     | cons j0 js0 =>
      obtain ⟨oj, _, hL, _⟩ := hpre j0 (by rw [hpl]; exact List.mem_cons_self)
      have := Y3 (P := P) (T := T) (by simpa using ho) hL.2.1 _ lt cur hpre hch
      rw [hpl] at this
      exact this
    have hfil : ((List.range ops.size).filter fun j => (c j && !(sOf listed j)) && !(j == i)) = ((List.range ops.size).filter fun j => c j && !(sOf (listed.setIfInBounds i true) j)) := List.filter_congr (fun j hj => by
     rw [hS' j (List.mem_range.1 hj)]
     simp only [cA, Bool.not_or]
     cases c j <;> cases sOf listed j <;> cases (j == i) <;> rfl)
    rw [hfil] at hhead
    clear hch
    have hch := hhead
    unfold dQ at hch
    rw [show ops.toList[i]? = some o by simpa using ho] at hch
    simp only at hch
    have hpu' : ∀ (env2 : List D), (∀ t, o.dst ≠ some t → env2.getD t .undef = cur.env.getD t .undef) → ∀ j oj, c j = false → sOf (listed.setIfInBounds i true) j = false → ops[j]? = some oj → (∀ t, oj.dst = some t → env2.getD t .undef = st1.env.getD t .undef) ∧ ∀ x ∈ oj.op.operands, aM env2 x = aM st1.env x := fun env2 h1 j oj hcj hsj' hoj => by
     have hsj : sOf listed j = false := by
      rw [hS' j (Array.getElem?_eq_some_iff.1 hoj).1] at hsj'; unfold cA at hsj'; simp only [Bool.or_eq_false_iff] at hsj'; exact hsj'.2
     have hji : j ≠ i := fun e => by subst e; rw [hci] at hcj; cases hcj
     refine ⟨fun t ht => ?_, fun x hx => ?_⟩
     ·rw [h1 t (fun e => hdst j oj hji hoj t e ht)]
      exact (hpu j oj hcj hsj hoj).1 t ht
     ·refine Eq.trans (uP (fun t ht => ?_)) ((hpu j oj hcj hsj hoj).2 x hx)
      subst ht
      have hr := mem_reads hx
      refine h1 t (fun e => ?_)
      rcases Nat.lt_or_ge j i with h2 | h2
      ·rcases (hpairs j oj h2 hoj).1 with q | ⟨_, _, q⟩
       ·exact q t e hr
       ·rw [bit1 j hji q] at hsj; cases hsj
      ·exact ((pS hok hoj).2.2.2 i o (by omega) ho).2.2.2.1 hci hcj t e hr
    have hset : ∀ d, (∀ t, o.dst ≠ some t → (setSlot cur.env o.dst d).getD t .undef = cur.env.getD t .undef) ∧ (∀ t, o.dst = some t → t < envS.length → (setSlot cur.env o.dst d).getD t .undef = d) := fun d =>
     ⟨fun t ht => by rw [nH, if_neg (fun e => ht e.1)], fun t ht hl' => by rw [nH, if_pos ⟨ht, by rw [← k3']; exact hl'⟩]⟩
    have hall9 : rQ ops.toList c i = true → ∀ k ok, c k = false → ops[k]? = some ok → sOf (listed.setIfInBounds i true) k = true := fun h9 k ok h1 h2 => by
     have hkl := (Array.getElem?_eq_some_iff.1 h2).1
     rw [hS' k hkl]
     have hki : k ≠ i := fun e => by rw [e, hci] at h1; cases h1
     have := bit1 k hki (X5 h9 k (by simpa using hkl) h1)
     simp [cA, this]
    have fin : ∀ (lt2 : List Bool) (cur2 : St) (d : D) (a' : Act) (w' : World), cur2.env = setSlot cur.env o.dst d → ((∀ r ∈ rd1, cur2.rt[r]? = st.rt[r]?) ∨ ∀ k ok, c k = false → ops[k]? = some ok → sOf (listed.setIfInBounds i true) k = true) →
      dQ P T ops.toList c rd1 st.rt K ((List.range ops.size).filter fun j => c j && !(sOf (listed.setIfInBounds i true) j)) lt2 cur2 → Fits w0 ⟨setSlot envS o.dst d, cur2.rt⟩ a' w' →
      wpAny P .any ops (fun e a' w' => ∃ st', Fits w0 st' a' w' ∧ Q e st') fuel (listed.setIfInBounds i true) a' w' := by
     intro lt2 cur2 d a' w' he hr hc ⟨fA, f1, f2, f3⟩
     refine ih _ _ _ cur2 lt2 (by simpa using hsz) hcnt' hcl'' hc hr (by rw [he]; simpa using hcl2) (by rw [he]; exact hpu' _ (hset d).1) ⟨fA, setSlot envS o.dst d, f1, f2, by rw [he]; simpa using k3', by rw [he]; exact hmask d _ (hset d).1 (hset d).2 (by simp), f3⟩
    have hfits : Fits w0 ⟨envS, cur.rt⟩ a w := ⟨own, k1, k2, k5⟩
    have hrun : (dD P T o cur fun d res => lD st.rt (dK cur.rt res.wr ++ res.new) (gK cur.rt (dK cur.rt res.wr ++ res.new) (cJ (bY cur o.dst d res) fun st' => dQ P T ops.toList c rd1 st.rt K ((List.range ops.size).filter fun j => c j && !(sOf (listed.setIfInBounds i true) j)) lt st') 0 lt) rd1 (rQ ops.toList c i)) →
      o.wp P a w (wpAny P .any ops (fun e a' w' => ∃ st', Fits w0 st' a' w' ∧ Q e st') fuel (listed.setIfInBounds i true)) (fun e a' w' => ∃ st', Fits w0 st' a' w' ∧ Q e st') := fun hch => by
     unfold dD at hch
     rw [lA] at hch
     obtain ⟨res, h1, hev⟩ := tI hch
     obtain ⟨hwr, h2⟩ := aO h1
     refine tB hT k5 (fun res' hres r q1 q2 => oU q1) (fun res' v w' own' hres hsim hmt => ?_) (hev envS (aQ cur.rt) hope (fun r _ => rfl))
     subst hres
     rw [yX hwr] at hsim hmt
     obtain ⟨d', hk', hm'⟩ := C2 h2 hmt
     obtain ⟨h3, h4⟩ := B9 hk'
     have h4 := (sQ.1 h4).2
     rw [gT] at h4
     exact fin lt (bY cur o.dst d' res') d' _ w' rfl (h3.imp (fun q => q) hall9) h4 (Fits.put (st := ⟨envS, dK cur.rt res'.wr ++ res'.new⟩) k1 k2 hsim o.dst hm')
    have hrunL : (dD P T o cur fun d res => chk (res.wr.isEmpty && res.new.isEmpty) (A8 (qX ops.toList c i) lt res.rd fun lt' => cJ (bY cur o.dst d res) fun st' => dQ P T ops.toList c rd1 st.rt K ((List.range ops.size).filter fun j => c j && !(sOf (listed.setIfInBounds i true) j)) lt' st')) →
      o.wp P a w (wpAny P .any ops (fun e a' w' => ∃ st', Fits w0 st' a' w' ∧ Q e st') fuel (listed.setIfInBounds i true)) (fun e a' w' => ∃ st', Fits w0 st' a' w' ∧ Q e st') := fun hch => by
     unfold dD at hch
     rw [lA] at hch
     obtain ⟨res, h1, hev⟩ := tI hch
     obtain ⟨hwr, h2⟩ := aO h1
     refine tB hT k5 (fun res' hres r q1 q2 => oU q1) (fun res' v w' own' hres hsim hmt => ?_) (hev envS (aQ cur.rt) hope (fun r _ => rfl))
     subst hres
     rw [yX hwr] at hsim hmt
     obtain ⟨d', hk', hm'⟩ := C2 h2 hmt
     obtain ⟨hemp, h4⟩ := aO hk'
     simp only [Bool.and_eq_true, List.isEmpty_iff] at hemp
     rw [Y9, gT] at h4
     have ert : (bY cur o.dst d' res').rt = cur.rt := by simp [bY, dK, hemp.1, hemp.2]
     refine fin _ (bY cur o.dst d' res') d' _ w' rfl ?_ h4 (Fits.put (st := ⟨envS, dK cur.rt res'.wr ++ res'.new⟩) k1 k2 hsim o.dst hm')
     rcases hrd with h8 | h8
     ·exact .inl (fun r hr => by rw [ert]; exact h8 r hr)
     ·refine .inr (fun k ok h1 h2 => ?_)
      rw [hS' k (Array.getElem?_eq_some_iff.1 h2).1]
      simp [cA, h8 k ok h1 h2]
    split at hch
    ·rename_i f args ts hop
     rcases hch with hch | hb
     ·exact hrun hch
     have ef : aM envS f = aM cur.env f := hope f (by rw [hop]; simp [Op.operands, Call.operands])
     have ea : args.toList.map (aM envS) = args.toList.map (aM cur.env) := List.map_congr_left (fun x hx => hope x (by rw [hop]; have hx' : x ∈ args := (by simpa using hx); simp [Op.operands, Call.operands, hx']))
     rw [← ef, ← ea] at hb
     refine Acw hT hfits hop hb (fun d rt a' w' hk hf' => ?_)
     obtain ⟨h1, h2⟩ := B9 hk
     have h2 := (sQ.1 h2).2
     rw [gT] at h2
     exact fin lt ⟨setSlot cur.env o.dst d, rt⟩ d a' w' rfl (h1.imp (fun q => q) hall9) h2 hf'
    ·unfold vS at hch
     cases hlo : lY o with
     | false => rw [hlo] at hch; exact hrun hch
     | true => rw [hlo] at hch; exact hrunL hch
 refine wp_region_any hm (key ops.size (Array.replicate ops.size false) a _ st1 [] (by simp) ?_ (fun k o hk => ?_) ?_ (.inl fun r _ => by rw [k2]) rfl (fun j o _ _ _ => ⟨fun t _ => rfl, fun x _ => rfl⟩) ?_)
 ·exact Nat.le_trans List.countP_le_length (by simp)
 ·exfalso
  simp only [sOf, Array.getD_eq_getD_getElem?, Array.getElem?_replicate] at hk
  split at hk <;> simp at hk
 ·have hfalse : ∀ k, sOf (Array.replicate ops.size false) k = false := fun k => by
   simp only [sOf, Array.getD_eq_getD_getElem?, Array.getElem?_replicate]
   split <;> rfl
  simp only [hfalse, Bool.not_false, Bool.and_true]
  exact hch
 ·have hfalse : ∀ k, sOf (Array.replicate ops.size false) k = false := fun k => by
   simp only [sOf, Array.getD_eq_getD_getElem?, Array.getElem?_replicate]
   split <;> rfl
  have hge : ∀ x, ((List.range st.env.length).map (iG ops c (sOf (Array.replicate ops.size false)) st1.env)).getD x .undef = iG ops c (sOf (Array.replicate ops.size false)) st1.env x := fun x => by
   rw [List.getD_eq_getElem?_getD, List.getElem?_map]
   by_cases hx : x < st.env.length
   ·rw [List.getElem?_range hx]; rfl
   ·rw [List.getElem?_eq_none (by simpa using hx)]
    unfold iG
    split
    ·rfl
    ·have hx1 : st1.env.length ≤ x := by rw [k3]; exact Nat.le_of_not_lt hx
     rw [List.getD_eq_getElem?_getD, List.getElem?_eq_none hx1]; rfl
  refine ⟨own, (List.range st.env.length).map (iG ops c (sOf (Array.replicate ops.size false)) st1.env), hd, by simpa using hl, by simp [k3], hge, ?_⟩
  rw [k2]
  have hsim := hs.put (env' := fun i => ((List.range st.env.length).map (iG ops c (sOf (Array.replicate ops.size false)) st1.env)).getD i .undef) (tm' := fun i => a.tmps.getD i Go.undef) (fun x => by
   show _ ∨ Mt _ _ _ _ (((List.range st.env.length).map (iG ops c (sOf (Array.replicate ops.size false)) st1.env)).getD x .undef) _
   rw [hge x]
   unfold iG
   split
   ·right; exact .undef _
   ·rename_i hno
    left
    refine ⟨?_, rfl⟩
    exact kx x (fun j hj o ho hd2 => hno ⟨j, o, (mem_p.1 hj).2, hfalse j, hops ho, hd2⟩))
  exact hsim.more ((Below.refl _ _).drew)
def mE (P : Program) (T : Tab) (ops : Array Oper) (st : St) (K : St → Prop) : Prop :=
 zF ops (B8 ops.toList) = true ∧ wH (Aj4 ops) fun ps => wH (Ask ops) fun cs => vX P T ops.toList ps st [] fun st1 rd => dQ P T ops.toList (B8 ops.toList) rd st.rt K cs [] st1
theorem G3 (hT : TabOk P T) (hm : P.follows .mixedOrders = true) {kp id : Nat} {ops : Array Oper} {K : St → Prop} {st : St} {Q : Exit → St → Prop} (h : mE P T ops st K) (hK : ∀ st', K st' → Q .normal st') : dJ P kp (.region id ops true) Q st := by
 obtain ⟨h1, h2⟩ := h
 rw [P0, P0] at h2
 exact An6 hT hm h1 h2 hK
end
end Go.Vm
namespace Go.Vm
open Go Go.RowKit
@[irreducible] def iR (P : Program) (kp : Nat) (body : Code) (Q : Exit → St → Prop) (st : St) : Prop :=
 ∀ (w0 : Base) (a : Act) (w : World), w0.keep = kp → Fits w0 st a w → ∀ b k cs, ∃ e a' w', (∃ st', Fits w0 st' a' w' ∧ Q e st') ∧ Arrives P (lone (b.at a (.code body :: .inLoop body :: k)) cs w) b k cs e a' w'
def oD : List Oper → List Oper
 | [] => []
 | o :: os => match os with
  | [] => []
  | _ :: _ => o :: oD os
def oB : List Oper → List Oper
 | [] => []
 | o :: os => match os with
  | [] => [o]
  | _ :: _ => oB os
def Ar1 (o : Oper) : Bool := match o.op with
 | .call { callee := .value _, .. } => true
 | _ => false
def Ahd (T : Tab) (o : Oper) : Bool := match o.op with
 | .store t _ _ => K9 T t
 | _ => false
def zH (b : Nat) : Nat → Bool
 | 0 => true
 | j + 1 => b.testBit j && zH b j
def vE (T : Tab) (ops : List Oper) : Bool := match oB ops with
 | [o] => (Ar1 o || Ahd T o) && zH ((eE ops).getD (oD ops).length 0) (oD ops).length
 | _ => false
theorem Aeb : ∀ (ops : List Oper) (o : Oper), oB ops = [o] → ops = oD ops ++ [o]
 | [], o, h => by simp [oB] at h
 | [a], o, h => by simp [oB] at h; simp [oD, h]
 | a :: b :: os, o, h => by
  have := Aeb (b :: os) o (by simpa [oB] using h)
  show a :: b :: os = a :: oD (b :: os) ++ [o]
  rw [List.cons_append, ← this]
theorem W4 {b : Nat} : ∀ {n : Nat}, zH b n = true → ∀ j, j < n → b.testBit j = true
 | 0, _, j, hj => by omega
 | n + 1, h, j, hj => by
  simp only [zH, Bool.and_eq_true] at h
  by_cases e : j = n
  ·rw [e]; exact h.1
  ·exact W4 h.2 j (by omega)
def vc (P : Program) (T : Tab) (kp : Nat) : Code → (Exit → St → Prop) → St → Prop
 | .skip, Q, st => Q .normal st
 | .region _ ops draw, Q, st => (match draw with
  | false => iD P T kp ops.toList ops.toList st (Q .normal)
  | true => match zB ops.toList with
   | true => mE P T ops st (Q .normal)
   | false => oM ops = true ∧ match vT T ops.toList with
    | true => yF P T kp ops.toList st (fun st K => jH P T ops.toList ops.toList st (fun l => l) K) (Q .normal)
    | false => match vE T ops.toList with
     | true => pL ops.toList (jH P T ops.toList (oD ops.toList) st (fun l => l) (fun st' => iD P T kp ops.toList (oB ops.toList) st' (Q .normal))) (mE P T ops st (Q .normal))
     | false => pL ops.toList (jH P T ops.toList ops.toList st (fun l => l) (Q .normal)) (mE P T ops st (Q .normal)))
 | .seq x y, Q, st => vc P T kp x (fun e st' => match e with
  | .normal => vc P T kp y Q st'
  | e => Q e st') st
 | .cond c x y, Q, st => (match aM st.env c with
  | .kb true => vc P T kp x Q st
  | .kb false => vc P T kp y Q st
  | _ => False)
 | .block id c, Q, st => vc P T kp c (fun e st' => match e with
  | .exit j => (match Nat.beq j id with
   | true => Q .normal st'
   | false => Q (.exit j) st')
  | e => Q e st') st
 | .loop c, Q, st => cJ st (iR P kp c Q)
 | .exit id, Q, st => Q (.exit id) st
 | .label _, Q, st => Q .normal st
 | .ret, Q, st => Q .ret st
 | _, _, _ => False
section
variable {P : Program} {T : Tab} {kp : Nat}
theorem dJ.mono {c : Code} {Q Q' : Exit → St → Prop} {st : St} (h : dJ P kp c Q st) (hq : ∀ e st, Q e st → Q' e st) : dJ P kp c Q' st :=
 fun w0 a w hkp hf => wp_mono (h w0 a w hkp hf) (fun e _ _ ⟨st', h1, h2⟩ => ⟨st', h1, hq e st' h2⟩)
theorem uI (hT : TabOk P T) (hm : P.follows .mixedOrders = true) : ∀ (c : Code) (Q : Exit → St → Prop) (st : St), vc P T kp c Q st → dJ P kp c Q st := by
 intro c
 induction c with
 | skip => intro Q st h w0 a w hkp hf; exact wp_skip ⟨st, hf, h⟩
 | region id ops draw =>
  intro Q st h
  simp only [vc] at h
  cases draw with
  | false => exact Ak3 hT h (fun _ h => h)
  | true =>
   simp only at h
   split at h
   ·exact G3 hT hm h (fun _ h => h)
   obtain ⟨h1, h2⟩ := h
   split at h2
   ·exact Ao7 hT hm h1 h2 (fun _ h => h)
   ·split at h2
    ·rename_i hl
     unfold vE at hl
     split at hl
     ·rename_i o ho
      simp only [Bool.and_eq_true] at hl
      rcases T0 h2 with h2 | h2
      ·rw [ho] at h2
       exact Anp hT hm (Aeb _ _ ho) (W4 hl.2) h1 h2 (fun _ h => h)
      ·exact G3 hT hm h2 (fun _ h => h)
     ·cases hl
    ·rcases T0 h2 with h2 | h2
     ·exact Afh hT hm h1 h2 (fun _ h => h)
     ·exact G3 hT hm h2 (fun _ h => h)
 | seq x y ihx ihy =>
  intro Q st h w0 a w hkp hf
  simp only [vc] at h
  refine wp_seq (wp_mono (ihx _ _ h w0 a w hkp hf) (fun e a' w' hq => ?_))
  obtain ⟨st', hf', hq⟩ := hq
  cases e <;> first | exact ihy _ _ hq w0 a' w' hkp hf' | exact ⟨st', hf', hq⟩
 | cond c x y ihx ihy =>
  intro Q st h w0 a w hkp hf
  simp only [vc] at h
  obtain ⟨own, hd, hl, hs⟩ := hf
  have hc := bZ hs c
  split at h
  ·rename_i e; rw [e] at hc
   exact wp_cond_true hc.kb_inv (ihx _ _ h w0 a w hkp ⟨own, hd, hl, hs⟩)
  ·rename_i e; rw [e] at hc
   exact wp_cond_false hc.kb_inv (ihy _ _ h w0 a w hkp ⟨own, hd, hl, hs⟩)
  ·exact h.elim
 | block id c ih =>
  intro Q st h w0 a w hkp hf
  simp only [vc] at h
  refine wp_block (wp_mono (ih _ _ h w0 a w hkp hf) (fun e a' w' hq => ?_))
  obtain ⟨st', hf', hq⟩ := hq
  cases e with
  | exit j =>
   simp only [Exit.inBlock]
   simp only at hq
   split at hq
   ·rename_i hb; rw [Nat.beq_eq] at hb; rw [if_pos hb]; exact ⟨st', hf', hq⟩
   ·rename_i hb
    rw [if_neg (fun e => by rw [e] at hb; simp at hb)]; exact ⟨st', hf', hq⟩
  | _ => exact ⟨st', hf', hq⟩
 | loop c ih =>
  intro Q st h
  simp only [vc, gT] at h
  unfold iR at h
  intro w0 a w hkp hf b k cs
  obtain ⟨e, a₁, w₁, hq, harr⟩ := h w0 a w hkp hf b k cs
  exact ⟨e, a₁, w₁, hq, .of_steps (.one step_loop) harr⟩
 | exit id => intro Q st h w0 a w hkp hf; exact wp_exit ⟨st, hf, h⟩
 | label l => intro Q st h w0 a w hkp hf; exact wp_label ⟨st, hf, h⟩
 | ret => intro Q st h w0 a w hkp hf; exact wp_ret ⟨st, hf, h⟩
 | _ => intro Q st h; exact h.elim
def aC (kp : Nat) (st st2 : St) : Prop := ∀ (w0 : Base) a w, w0.keep = kp → Fits w0 st a w → Fits w0 st2 a w
theorem aC.refl (st : St) : aC kp st st := fun _ _ _ _ h => h
theorem aC.trans {a b c : St} (h : aC kp a b) (k : aC kp b c) : aC kp a c := fun w0 x w hkp hf => k w0 x w hkp (h w0 x w hkp hf)
theorem X4 (hT : TabOk P T) (hm : P.follows .mixedOrders = true) {body : Code} {Q : Exit → St → Prop} {st : St} {α : Type} (mk : α → St) (J : α → Prop) (μ : α → Nat) (x0 : α) (h0 : J x0) (hw : aC kp st (mk x0))
  (round : ∀ x, J x → vc P T kp body (fun e st' => match e with
   | .normal => ∃ y, J y ∧ μ y < μ x ∧ aC kp st' (mk y)
   | e => Q e st') (mk x)) : iR P kp body Q st := by
 unfold iR
 intro w0 a w hkp hf b k cs
 have key : ∀ n x a w, μ x = n → J x → Fits w0 (mk x) a w → ∃ e a' w', (∃ st', Fits w0 st' a' w' ∧ Q e st') ∧ Arrives P (lone (b.at a (.code body :: .inLoop body :: k)) cs w) b k cs e a' w' := by
  intro n
  induction n using Nat.strongRecOn with
  | _ n ih =>
   intro x a w hn hJ hfx
   have hr := uI hT hm _ _ _ (round x hJ) w0 a w hkp hfx b (.inLoop body :: k) cs
   obtain ⟨e, a₁, w₁, ⟨st1, hf1, hq⟩, harr⟩ := hr
   cases e with
   | normal =>
    obtain ⟨y, hJy, hlt, hwk⟩ := hq
    obtain ⟨e₂, a₂, w₂, hq₂, harr₂⟩ := ih (μ y) (hn ▸ hlt) y a₁ w₁ rfl hJy (hwk w0 a₁ w₁ hkp hf1)
    exact ⟨e₂, a₂, w₂, hq₂, .of_steps (Steps.trans harr (.one step_inLoop)) harr₂⟩
   | exit id => exact ⟨_, a₁, w₁, ⟨st1, hf1, hq⟩, .pass (x := .inLoop body) rfl (fun _ _ => .inl (by simp)) harr⟩
   | goto l => exact ⟨_, a₁, w₁, ⟨st1, hf1, hq⟩, .pass (x := .inLoop body) rfl (fun _ _ => .inl (by simp)) harr⟩
   | ret => exact ⟨_, a₁, w₁, ⟨st1, hf1, hq⟩, .pass (x := .inLoop body) rfl (fun _ _ => .inl (by simp)) harr⟩
   | panic ch => exact ⟨_, a₁, w₁, ⟨st1, hf1, hq⟩, .pass (x := .inLoop body) rfl (fun _ _ => .inl (by simp)) harr⟩
   | outgrown => exact ⟨_, a₁, w₁, ⟨st1, hf1, hq⟩, .pass (x := .inLoop body) rfl (fun _ _ => .inl (by simp)) harr⟩
 exact key _ x0 a w rfl h0 (hw w0 a w hkp hf)
theorem Aoq (hT : TabOk P T) (hm : P.follows .mixedOrders = true) {body : Code} {Q : Exit → St → Prop} {st : St}
  (h : vc P T kp body (fun e st' => match e with
   | .normal => cJ st' (iR P kp body Q)
   | e => Q e st') st) : iR P kp body Q st := by
 unfold iR
 intro w0 a w hkp hf b k cs
 obtain ⟨e, a₁, w₁, ⟨st1, hf1, hq⟩, harr⟩ := uI hT hm _ _ _ h w0 a w hkp hf b (.inLoop body :: k) cs
 cases e with
 | normal =>
  simp only [gT] at hq
  unfold iR at hq
  obtain ⟨e₂, a₂, w₂, hq₂, harr₂⟩ := hq w0 a₁ w₁ hkp hf1 b k cs
  exact ⟨e₂, a₂, w₂, hq₂, .of_steps (Steps.trans harr (.one step_inLoop)) harr₂⟩
 | exit id => exact ⟨_, a₁, w₁, ⟨st1, hf1, hq⟩, .pass (x := .inLoop body) rfl (fun _ _ => .inl (by simp)) harr⟩
 | goto l => exact ⟨_, a₁, w₁, ⟨st1, hf1, hq⟩, .pass (x := .inLoop body) rfl (fun _ _ => .inl (by simp)) harr⟩
 | ret => exact ⟨_, a₁, w₁, ⟨st1, hf1, hq⟩, .pass (x := .inLoop body) rfl (fun _ _ => .inl (by simp)) harr⟩
 | panic ch => exact ⟨_, a₁, w₁, ⟨st1, hf1, hq⟩, .pass (x := .inLoop body) rfl (fun _ _ => .inl (by simp)) harr⟩
 | outgrown => exact ⟨_, a₁, w₁, ⟨st1, hf1, hq⟩, .pass (x := .inLoop body) rfl (fun _ _ => .inl (by simp)) harr⟩
end
end Go.Vm
