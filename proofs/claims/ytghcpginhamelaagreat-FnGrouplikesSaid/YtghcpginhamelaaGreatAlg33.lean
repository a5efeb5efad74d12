import Derived.Test.YtghcpginhamelaaGreatAlg31
import Derived.Test.YtghcpginhamelaaGreatAlg27
namespace Go.Fg
set_option linter.unusedVariables false
set_option linter.unusedSimpArgs false
set_option linter.unusedSectionVars false
structure CM (A : Type) where
 z : A
 ad : A → A → A
 assoc : ∀ a b c, ad (ad a b) c = ad a (ad b c)
 comm : ∀ a b, ad a b = ad b a
 zad : ∀ a, ad z a = a
theorem yK {A : Type} : ∀ {l r : List A}, l.Nodup → (∀ x ∈ l, x ∈ r) → l.length ≤ r.length
 | [], r, _, _ => Nat.zero_le _
 | a :: l, r, hn, hs => by
   classical
   have hn' := List.nodup_cons.1 hn
   have ha : a ∈ r := hs a (by simp)
   have h2 : ∀ x ∈ l, x ∈ r.erase a := fun x hx => (List.mem_erase_of_ne (fun e => hn'.1 (by rw [← e]; exact hx))).2 (hs x (by simp [hx]))
   have h3 := yK hn'.2 h2
   rw [List.length_erase_of_mem ha] at h3
   have h4 : 0 < r.length := List.length_pos_of_mem ha
   simp only [List.length_cons]
   omega
namespace CM
variable {A : Type} (G : CM A)
theorem adz (a : A) : G.ad a G.z = a := by rw [G.comm, G.zad]
theorem swp (a b c d : A) : G.ad (G.ad a b) (G.ad c d) = G.ad (G.ad a c) (G.ad b d) := by
 rw [G.assoc, G.assoc, ← G.assoc b, G.comm b c, G.assoc]
def nm : Nat → A → A
 | 0, _ => G.z
 | n + 1, a => G.ad (nm n a) a
theorem nm_one (a : A) : G.nm 1 a = a := G.zad a
theorem nm_add : ∀ (n k : Nat) (a : A), G.nm (n + k) a = G.ad (G.nm n a) (G.nm k a)
 | n, 0, a => (G.adz _).symm
 | n, k + 1, a => by show G.ad (G.nm (n + k) a) a = G.ad _ (G.ad (G.nm k a) a); rw [nm_add n k, G.assoc]
theorem nm_ad : ∀ (n : Nat) (a b : A), G.nm n (G.ad a b) = G.ad (G.nm n a) (G.nm n b)
 | 0, a, b => (G.zad _).symm
 | n + 1, a, b => by show G.ad (G.nm n _) _ = G.ad (G.ad _ _) (G.ad _ _); rw [nm_ad n, G.swp]
theorem nm_mul : ∀ (n k : Nat) (a : A), G.nm (n * k) a = G.nm n (G.nm k a)
 | 0, k, a => by rw [Nat.zero_mul]; rfl
 | n + 1, k, a => by rw [Nat.add_mul, Nat.one_mul, nm_add, nm_mul n k]; rfl
structure Sub (S : List A) : Prop where
 nd : S.Nodup
 z : G.z ∈ S
 ad : ∀ a ∈ S, ∀ b ∈ S, G.ad a b ∈ S
def Exp (N : Nat) (S : List A) : Prop := ∀ a ∈ S, G.nm N a = G.z
variable {G}
theorem Sub.nm {S : List A} (h : G.Sub S) {a : A} (ha : a ∈ S) : ∀ n, G.nm n a ∈ S
 | 0 => h.z
 | n + 1 => h.ad _ (Sub.nm h ha n) _ ha
theorem Exp.inv {N : Nat} (hN : 1 ≤ N) {S : List A} (h : G.Exp N S) {a : A} (ha : a ∈ S) : G.ad (G.nm (N - 1) a) a = G.z := by
 have := h a ha
 obtain ⟨k, rfl⟩ : ∃ k, N = k + 1 := ⟨N - 1, by omega⟩
 exact this
theorem Exp.cancel {N : Nat} (hN : 1 ≤ N) {S : List A} (h : G.Exp N S) {a b c : A} (ha : a ∈ S) (e : G.ad a b = G.ad a c) : b = c := by
 have hi := h.inv hN ha
 rw [← G.zad b, ← G.zad c, ← hi, G.assoc, G.assoc, e]
theorem Apw {N : Nat} (hN : 1 ≤ N) {S H : List A} (hS : G.Sub S) (hE : G.Exp N S) (hH : G.Sub H) (hs : ∀ x ∈ H, x ∈ S) {y : A} (hy : y ∈ S) {n k : Nat} (hn : G.nm n y ∈ H) (hk : G.nm k y ∈ H) : G.nm (n % k) y ∈ H := by
 have h1 : G.nm (k * (n / k)) y ∈ H := by rw [Nat.mul_comm, G.nm_mul]; exact hH.nm hk _
 have h2 : G.nm n y = G.ad (G.nm (k * (n / k)) y) (G.nm (n % k) y) := by rw [← G.nm_add, Nat.div_add_mod]
 have h3 := hE.inv hN (hs _ h1)
 have h4 : G.nm (n % k) y = G.ad (G.nm (N - 1) (G.nm (k * (n / k)) y)) (G.nm n y) := by
   rw [h2, ← G.assoc, h3, G.zad]
 rw [h4]
 exact hH.ad _ (hH.nm h1 _) _ hn
theorem As4 {N : Nat} (hN : 1 ≤ N) {S H : List A} (hS : G.Sub S) (hE : G.Exp N S) (hH : G.Sub H) (hs : ∀ x ∈ H, x ∈ S) {y : A} (hy : y ∈ S) : ∀ (n k : Nat), G.nm n y ∈ H → G.nm k y ∈ H → G.nm (Nat.gcd n k) y ∈ H := by
 intro n k
 induction n, k using Nat.gcd.induction with
 | H0 k => intro _ h; rw [Nat.gcd_zero_left]; exact h
 | H1 n k hn ih => intro h1 h2; rw [Nat.gcd_rec]; exact ih (Apw hN hS hE hH hs hy h2 h1) h1
def grow (G : CM A) (p : Nat) (H : List A) (y : A) : List A := (List.range p).flatMap fun i => H.map (G.ad (G.nm i y))
theorem mem_grow {p : Nat} {H : List A} {y x : A} : x ∈ grow G p H y ↔ ∃ i, i < p ∧ ∃ a ∈ H, G.ad (G.nm i y) a = x := by
 unfold grow
 simp only [List.mem_flatMap, List.mem_range, List.mem_map]
theorem Agz (p : Nat) (H : List A) (y : A) : (grow G p H y).length = p * H.length := by
 unfold grow
 rw [List.length_flatMap]
 have : ((List.range p).map fun i => (H.map (G.ad (G.nm i y))).length) = List.replicate p H.length := by
   rw [List.eq_replicate_iff]
   exact ⟨by simp, fun b hb => by simp only [List.mem_map, List.length_map] at hb; obtain ⟨_, _, rfl⟩ := hb; rfl⟩
 rw [this, List.sum_replicate_nat]
theorem Akf {N p : Nat} (hN : 1 ≤ N) (hp : ∀ d, 0 < d → d < p → Nat.gcd d p = 1) (hp0 : 1 ≤ p) {S H : List A} (hS : G.Sub S) (hE : G.Exp N S) (hH : G.Sub H) (hs : ∀ x ∈ H, x ∈ S) {y : A} (hy : y ∈ S) (hyH : y ∉ H) (hpy : G.nm p y ∈ H) :
   G.Sub (grow G p H y) ∧ ∀ x ∈ grow G p H y, x ∈ S := by
 refine ⟨⟨?_, ?_, ?_⟩, ?_⟩
 · unfold grow
   refine List.pairwise_flatMap.2 ⟨fun i hi => ?_, ?_⟩
   · refine List.pairwise_map.2 ?_
     exact hH.nd.imp_of_mem (fun {a b} ha hb hne e => hne (hE.cancel hN (hS.nm hy i) e))
   · refine (List.pairwise_lt_range (n := p)).imp_of_mem (fun {i j} hi hj hlt => ?_)
     have hi' := List.mem_range.1 hi
     have hj' := List.mem_range.1 hj
     intro x hx x' hx' e
     obtain ⟨a, ha, rfl⟩ := List.mem_map.1 hx
     obtain ⟨b, hb, rfl⟩ := List.mem_map.1 hx'
     have e2 : G.nm j y = G.ad (G.nm i y) (G.nm (j - i) y) := by rw [← G.nm_add, show i + (j - i) = j by omega]
     rw [e2, G.assoc] at e
     have e3 := hE.cancel hN (hS.nm hy i) e
     have hb' := hE.inv hN (hs b hb)
     have e4 : G.nm (j - i) y = G.ad a (G.nm (N - 1) b) := by
       rw [e3, G.assoc, G.comm b, hb', G.adz]
     have h5 : G.nm (j - i) y ∈ H := by rw [e4]; exact hH.ad _ ha _ (hH.nm hb _)
     have h6 := As4 hN hS hE hH hs hy _ _ h5 hpy
     rw [hp (j - i) (by omega) (by omega), G.nm_one] at h6
     exact hyH h6
 · exact mem_grow.2 ⟨0, by omega, G.z, hH.z, G.zad _⟩
 · intro x hx x' hx'
   obtain ⟨i, hi, a, ha, rfl⟩ := mem_grow.1 hx
   obtain ⟨j, hj, b, hb, rfl⟩ := mem_grow.1 hx'
   rw [G.swp, ← G.nm_add]
   by_cases h : i + j < p
   · exact mem_grow.2 ⟨i + j, h, _, hH.ad _ ha _ hb, rfl⟩
   · refine mem_grow.2 ⟨i + j - p, by omega, G.ad (G.nm p y) (G.ad a b), hH.ad _ hpy _ (hH.ad _ ha _ hb), ?_⟩
     rw [← G.assoc, ← G.nm_add, show i + j - p + p = i + j by omega]
 · intro x hx
   obtain ⟨i, hi, a, ha, rfl⟩ := mem_grow.1 hx
   exact hS.ad _ (hS.nm hy i) _ (hs a ha)
theorem Aem {p : Nat} {S H : List A} (hS : G.Sub S) : ∀ (k : Nat) {x : A}, x ∈ S → x ∉ H → G.nm (p ^ k) x ∈ H → ∃ y, y ∈ S ∧ y ∉ H ∧ G.nm p y ∈ H
 | 0, x, hx, hn, h => absurd (by rw [Nat.pow_zero, G.nm_one] at h; exact h) hn
 | k + 1, x, hx, hn, h => by
   classical
   by_cases h2 : G.nm (p ^ k) x ∈ H
   · exact Aem hS k hx hn h2
   · refine ⟨_, hS.nm hx (p ^ k), h2, ?_⟩
     rw [← G.nm_mul, Nat.mul_comm, ← Nat.pow_succ]
     exact h
theorem order_pow {p k : Nat} (hp : ∀ d, 0 < d → d < p → Nat.gcd d p = 1) (hp0 : 2 ≤ p) {S : List A} (hS : G.Sub S) (hE : G.Exp (p ^ k) S) : ∃ e, S.length = p ^ e := by
 have hN : 1 ≤ p ^ k := Nat.pos_of_ne_zero (by intro h; have := Nat.pow_eq_zero.1 h; omega)
 have main : ∀ (d e : Nat) (H : List A), S.length - H.length ≤ d → H.length = p ^ e → G.Sub H → (∀ x ∈ H, x ∈ S) → ∃ e, S.length = p ^ e := by
   intro d
   induction d with
   | zero =>
     intro e H h1 h2 hH hs
     have h3 := yK hH.nd hs
     exact ⟨e, by omega⟩
   | succ d ih =>
     intro e H h1 h2 hH hs
     classical
     by_cases hall : ∀ x ∈ S, x ∈ H
     · have h3 := yK hH.nd hs
       have h4 := yK hS.nd hall
       exact ⟨e, by omega⟩
     · obtain ⟨x, hx, hxn⟩ : ∃ x, x ∈ S ∧ x ∉ H := by
         refine Classical.byContradiction (fun hc => hall (fun x hx => ?_))
         exact Classical.byContradiction (fun hc2 => hc ⟨x, hx, hc2⟩)
       obtain ⟨y, hy, hyn, hpy⟩ := Aem (p := p) hS k hx hxn (by rw [hE x hx]; exact hH.z)
       obtain ⟨g1, g2⟩ := Akf hN hp (by omega) hS hE hH hs hy hyn hpy
       have hl := Agz (G := G) p H y
       have h5 : 1 ≤ H.length := List.length_pos_of_mem hH.z
       have h6 : 2 * H.length ≤ p * H.length := Nat.mul_le_mul_right _ hp0
       exact ih (e + 1) (grow G p H y) (by omega) (by rw [hl, h2, Nat.pow_succ, Nat.mul_comm]) g1 g2
 refine main S.length 0 [G.z] (by omega) rfl ⟨by simp, by simp, fun a ha b hb => ?_⟩ (fun x hx => ?_)
 · simp only [List.mem_singleton] at ha hb ⊢
   rw [ha, hb, G.zad]
 · simp only [List.mem_singleton] at hx
   rw [hx]; exact hS.z
end CM
end Go.Fg
namespace Go.Fg
set_option linter.unusedVariables false
set_option linter.unusedSimpArgs false
set_option linter.unusedSectionVars false
namespace PS
section
variable {m : Int}
theorem Q3 (f : PS (PS (Zm m))) {q : Nat} {a b : PS (Zm m)} (h : Ag q a b) : bC a f 0 q = bC b f 0 q := by
 unfold bC
 exact bS (fun i hi => by rw [Nat.zero_add, h i hi])
theorem N8 (u v : PS (Zm m)) (i j : Nat) : ((dA u * kH v).c i).c j = u.c i * v.c j := by
 have e : (dA u * kH v).c i = C (u.c i) * v := by
   rw [CR.mul_comm]
   show (C v * dA u).c i = _
   rw [C_mul, CR.mul_comm]; rfl
 rw [e, C_mul]
theorem Arq (u v : PS (Zm m)) : kH (u * v) = kH u * kH v := (nV u v).symm
theorem Agj {q : Nat} {u v a b : PS (Zm m)} (h : Ag q u v) (k : Ag q a b) : bF q (dA u * kH a) (dA v * kH b) := fun i j hi hj => by
 rw [N8, N8, h i hi, k j hj]
def eZ (f : PS (PS (Zm m))) (q : Nat) (u : PS (Zm m)) : Prop := u.c 0 = 1 ∧ bF q (bC u f 0 q) (dA u * kH u)
theorem eZ.mul {f : PS (PS (Zm m))} {q : Nat} (hv : ∀ k, q ≤ k → bF q (Go.Fg.pw f k) 0) {u v : PS (Zm m)} (hu : eZ f q u) (hw : eZ f q v) : eZ f q (u * v) := by
 refine ⟨by rw [mul_c0, hu.1, hw.1]; exact CR.one_mul _, ?_⟩
 refine (Alx hv u v).trans ((hu.2.mul hw.2).trans (bF.of_eq ?_))
 rw [vL, Arq]
 ac_rfl
theorem eZ.one {f : PS (PS (Zm m))} {q : Nat} (hq : 1 ≤ q) : eZ f q (1 : PS (Zm m)) := ⟨rfl, bF.of_eq (by
 rw [Alk hq, xW]
 exact (CR.one_mul _).symm)⟩
theorem eZ.cong {f : PS (PS (Zm m))} {q : Nat} (hq : 1 ≤ q) {u v : PS (Zm m)} (h : Ag q u v) (hu : eZ f q u) : eZ f q v :=
 ⟨by rw [← h 0 (by omega)]; exact hu.1, by rw [← Q3 f h]; exact hu.2.trans (Agj h h)⟩
theorem Ap1 {q : Nat} (hq : 1 ≤ q) (hb : ∀ i, 0 < i → i < q → nc (Zm m) (cX q i) = 0) {u : PS (Zm m)} (h : u.c 0 = 1) : Ag q (Go.Fg.pw u q) 1 := by
 have e : Ag q u (Go.Fg.sm q fun i => mono i (u.c i)) := fun i hi => by
   rw [sm_c, eQ i hi (fun a _ hne => by rw [cK, if_neg (Ne.symm hne)]), cK, if_pos rfl]
 refine (e.pw q).trans ?_
 have hb2 : ∀ i, 0 < i → i < q → nc (PS (Zm m)) (cX q i) = 0 := fun i h1 h2 => by rw [wI, hb i h1 h2, C_zero]
 rw [Adu hq hb2]
 intro i hi
 rw [sm_c, eQ 0 (by omega) (fun a _ hne => by
   rw [rE, cK, if_neg (by
     intro e2
     have : q * 1 ≤ q * a := Nat.mul_le_mul (Nat.le_refl q) (by omega)
     omega)]), rE, cK, h, tN, Nat.mul_zero, one_c]
def Tq (m : Int) (q : Nat) : Type := {a : PS (Zm m) // ∀ i, q ≤ i → a.c i = 0}
def tc (q : Nat) (a : PS (Zm m)) : Tq m q := ⟨⟨fun i => if i < q then a.c i else 0⟩, fun i hi => if_neg (by omega)⟩
theorem iA {q : Nat} (a : PS (Zm m)) : Ag q (tc q a).1 a := fun i hi => if_pos hi
theorem xJ {q : Nat} {a b : Tq m q} (h : Ag q a.1 b.1) : a = b := Subtype.ext (PS.ext (fun i => by
 by_cases hi : i < q
 · exact h i hi
 · rw [a.2 i (by omega), b.2 i (by omega)]))
theorem F0 {q : Nat} {a b : PS (Zm m)} (h : Ag q a b) : tc q a = tc q b := xJ (((iA a).trans h).trans (iA b).symm)
theorem Aj6 {q : Nat} {a b : PS (Zm m)} : tc q a = tc q b ↔ Ag q a b := ⟨fun h => ((iA a).symm.trans (Ag.of_eq (congrArg Subtype.val h))).trans (iA b), F0⟩
def tM (m : Int) (q : Nat) : CM (Tq m q) where
 z := tc q 1
 ad a b := tc q (a.1 * b.1)
 assoc a b c := F0 (((iA _).mul Ag.rfl).trans ((Ag.of_eq (CR.mul_assoc _ _ _)).trans (Ag.rfl.mul (iA _).symm)))
 comm a b := F0 (Ag.of_eq (CR.mul_comm _ _))
 zad a := xJ ((iA _).trans (((iA _).mul Ag.rfl).trans (Ag.of_eq (CR.one_mul _))))
theorem Acd {q : Nat} (a : Tq m q) : ∀ k, Ag q ((tM m q).nm k a).1 (Go.Fg.pw a.1 k)
 | 0 => iA 1
 | k + 1 => (iA _).trans ((Acd a k).mul Ag.rfl)
theorem Aim {p k q : Nat} (hp : ∀ d, 0 < d → d < p → Nat.gcd d p = 1) (hp0 : 2 ≤ p) (hq : q = p ^ k) (hb : ∀ i, 0 < i → i < q → nc (Zm m) (cX q i) = 0)
   {f : PS (PS (Zm m))} (hv : ∀ k, q ≤ k → bF q (Go.Fg.pw f k) 0) (S : List (Tq m q)) (hn : S.Nodup) (hS : ∀ a, a ∈ S ↔ eZ f q a.1) : ∃ e, S.length = p ^ e := by
 have hq1 : 1 ≤ q := by rw [hq]; exact Nat.pos_of_ne_zero (by intro h; have := Nat.pow_eq_zero.1 h; omega)
 refine CM.order_pow (G := tM m q) (k := k) hp hp0 ⟨hn, ?_, ?_⟩ ?_
 · exact (hS _).2 (eZ.cong hq1 (iA _).symm (eZ.one hq1))
 · intro a ha b hb
   exact (hS _).2 (eZ.cong hq1 (iA _).symm (eZ.mul hv ((hS a).1 ha) ((hS b).1 hb)))
 · intro a ha
   refine xJ ?_
   rw [← hq]
   exact (Acd a q).trans ((Ap1 hq1 hb ((hS a).1 ha).1).trans (iA 1).symm)
def tY (f : PS (PS (Zm m))) (q : Nat) (u : PS (Zm m)) : Prop := u.c 0 = 0 ∧ bF q (bC u f 0 q) (dA u + kH u)
theorem tY.add {f : PS (PS (Zm m))} {q : Nat} {u v : PS (Zm m)} (hu : tY f q u) (hv : tY f q v) : tY f q (u + v) := by
 refine ⟨by rw [add_c, hu.1, hv.1]; exact CR.zero_add _, fun i j hi hj => ?_⟩
 have e : bC (u + v) f 0 q = bC u f 0 q + bC v f 0 q := by
   unfold bC
   rw [← kB]
   exact bS (fun i _ => by rw [add_c, ← qK, ← qK, Go.Fg.add_mul])
 have e2 : ∀ u : PS (Zm m), ((dA u + kH u).c i).c j = (C (u.c i)).c j + (if i = 0 then u.c j else 0) := fun u => by
   rw [add_c, add_c]
   congr 1
   show ((C u).c i).c j = _
   rw [dN]
   split <;> rfl
 rw [e, add_c, add_c, hu.2 i j hi hj, hv.2 i j hi hj, e2, e2, e2, add_c, ← qK, add_c]
 by_cases h : i = 0
 · rw [if_pos h, if_pos h, if_pos h, add_c]; ac_rfl
 · rw [if_neg h, if_neg h, if_neg h, Go.Fg.add_zero, Go.Fg.add_zero, Go.Fg.add_zero]
end
end PS
end Go.Fg
