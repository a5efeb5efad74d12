import Derived.Test.YtghcpginhamelaaGreatAlg31
import Derived.Test.YtghcpginhamelaaGreatAlg27
namespace Go.Fg
set_option linter.unusedVariables false
set_option linter.unusedSimpArgs false
set_option linter.unusedSectionVars false
structure CM (A : Type) where
 z : A
 ad : A → A → A
 assoc : ∀ a b c, ad (ad a b) c = ad a (ad b c)
 comm : ∀ a b, ad a b = ad b a
 zad : ∀ a, ad z a = a
namespace CM
variable {A : Type} (G : CM A)
theorem adz (a : A) : G.ad a G.z = a := by rw [G.comm, G.zad]
theorem swp (a b c d : A) : G.ad (G.ad a b) (G.ad c d) = G.ad (G.ad a c) (G.ad b d) := by
 rw [G.assoc, G.assoc, ← G.assoc b, G.comm b c, G.assoc]
def nm : Nat → A → A
 | 0, _ => G.z
 | n + 1, a => G.ad (nm n a) a
theorem nm_add : ∀ (n k : Nat) (a : A), G.nm (n + k) a = G.ad (G.nm n a) (G.nm k a)
 | n, 0, a => (G.adz _).symm
 | n, k + 1, a => by show G.ad (G.nm (n + k) a) a = G.ad _ (G.ad (G.nm k a) a); rw [nm_add n k, G.assoc]
theorem nm_ad : ∀ (n : Nat) (a b : A), G.nm n (G.ad a b) = G.ad (G.nm n a) (G.nm n b)
 | 0, a, b => (G.zad _).symm
 | n + 1, a, b => by show G.ad (G.nm n _) _ = G.ad (G.ad _ _) (G.ad _ _); rw [nm_ad n, G.swp]
structure Sub (S : List A) : Prop where
 nd : S.Nodup
 z : G.z ∈ S
 ad : ∀ a ∈ S, ∀ b ∈ S, G.ad a b ∈ S
variable {G}
def grow (G : CM A) (p : Nat) (H : List A) (y : A) : List A := (List.range p).flatMap fun i => H.map (G.ad (G.nm i y))
end CM
end Go.Fg
namespace Go.Fg
set_option linter.unusedVariables false
set_option linter.unusedSimpArgs false
set_option linter.unusedSectionVars false
namespace PS
section
variable {m : Int}
def Tq (m : Int) (q : Nat) : Type := {a : PS (Zm m) // ∀ i, q ≤ i → a.c i = 0}
def tc (q : Nat) (a : PS (Zm m)) : Tq m q := ⟨⟨fun i => if i < q then a.c i else 0⟩, fun i hi => if_neg (by omega)⟩
theorem sH {q : Nat} (a : PS (Zm m)) : Ag q (tc q a).1 a := fun i hi => if_pos hi
theorem Ahu {q : Nat} {a b : Tq m q} (h : Ag q a.1 b.1) : a = b := Subtype.ext (PS.ext (fun i => by
 by_cases hi : i < q
 · exact h i hi
 · rw [a.2 i (by omega), b.2 i (by omega)]))
theorem Abu {q : Nat} {a b : PS (Zm m)} (h : Ag q a b) : tc q a = tc q b := Ahu (((sH a).trans h).trans (sH b).symm)
def tM (m : Int) (q : Nat) : CM (Tq m q) where
 z := tc q 1
 ad a b := tc q (a.1 * b.1)
 assoc a b c := Abu (((sH _).mul Ag.rfl).trans ((Ag.of_eq (CR.mul_assoc _ _ _)).trans (Ag.rfl.mul (sH _).symm)))
 comm a b := Abu (Ag.of_eq (CR.mul_comm _ _))
 zad a := Ahu ((sH _).trans (((sH _).mul Ag.rfl).trans (Ag.of_eq (CR.one_mul _))))
end
end PS
end Go.Fg
