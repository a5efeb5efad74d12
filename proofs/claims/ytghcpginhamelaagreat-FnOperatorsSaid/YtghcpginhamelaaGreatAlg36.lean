import Derived.Test.YtghcpginhamelaaGreatAlg35
import Derived.Test.YtghcpginhamelaaGreatAlg10
namespace Go.Fg
set_option linter.unusedVariables false
set_option linter.unusedSimpArgs false
set_option linter.unusedSectionVars false
set_option maxHeartbeats 4000000
open CR PS
section
variable {m : Int}
theorem P7 (n : Nat) : (kN n = 1 ∧ bX n = [-1]) ∨ (kN n = 2 ∧ bX n = [-1, -1]) ∨ (kN n = 2 ∧ bX n = [-1, 0]) ∨ (kN n = 4 ∧ bX n = [-1, -1, -1, -1]) := by
 unfold kN bX
 split <;> simp
theorem C9 {n : Nat} (a b : PS (Zm m)) {j : Nat} (hj : j < kN n) : (dI (kN n) (rd m (bX n)) a b).c j = (dI (kN n) (rd m (bX n)) b a).c j := by
 have hA : ∀ (a : PS (Zm m)) i, ∃ x, a.c i = Zm.mk m x := fun a i => ⟨_, (Zm.mk_val _).symm⟩
 obtain ⟨x0, e0⟩ := hA a 0
 obtain ⟨x1, e1⟩ := hA a 1
 obtain ⟨x2, e2⟩ := hA a 2
 obtain ⟨x3, e3⟩ := hA a 3
 obtain ⟨y0, g0⟩ := hA b 0
 obtain ⟨y1, g1⟩ := hA b 1
 obtain ⟨y2, g2⟩ := hA b 2
 obtain ⟨y3, g3⟩ := hA b 3
 rcases P7 n with ⟨h1, h2⟩ | ⟨h1, h2⟩ | ⟨h1, h2⟩ | ⟨h1, h2⟩ <;> rw [h1, h2] <;> rw [h1] at hj
 · obtain rfl : j = 0 := by omega
   simp [fA, bS, dV, sm, rd, e0, g0]
   simp only [← Zm.mk_mul, ← Zm.mk_add, ← Zm.mk_sub, ← Zm.mk_neg, ← Zm.mk_zero]
   exact congrArg _ (by grind)
 · rcases (show j = 0 ∨ j = 1 by omega) with rfl | rfl
   all_goals
     simp [fA, bS, dV, sm, rd, e0, g0, e1, g1]
     simp only [← Zm.mk_mul, ← Zm.mk_add, ← Zm.mk_sub, ← Zm.mk_neg, ← Zm.mk_zero]
     exact congrArg _ (by grind)
 · rcases (show j = 0 ∨ j = 1 by omega) with rfl | rfl
   all_goals
     simp [fA, bS, dV, sm, rd, e0, g0, e1, g1]
     simp only [← Zm.mk_mul, ← Zm.mk_add, ← Zm.mk_sub, ← Zm.mk_neg, ← Zm.mk_zero]
     exact congrArg _ (by grind)
 · rcases (show j = 0 ∨ j = 1 ∨ j = 2 ∨ j = 3 by omega) with rfl | rfl | rfl | rfl
   all_goals
     simp [fA, bS, dV, sm, rd, e0, g0, e1, g1, e2, g2, e3, g3]
     simp only [← Zm.mk_mul, ← Zm.mk_add, ← Zm.mk_sub, ← Zm.mk_neg, ← Zm.mk_zero]
     exact congrArg _ (by grind)
theorem Alo {n : Nat} (a b c : PS (Zm m)) {j : Nat} (hj : j < kN n) : (dI (kN n) (rd m (bX n)) (dI (kN n) (rd m (bX n)) a b) c).c j = (dI (kN n) (rd m (bX n)) a (dI (kN n) (rd m (bX n)) b c)).c j := by
 have hA : ∀ (a : PS (Zm m)) i, ∃ x, a.c i = Zm.mk m x := fun a i => ⟨_, (Zm.mk_val _).symm⟩
 obtain ⟨x0, e0⟩ := hA a 0
 obtain ⟨x1, e1⟩ := hA a 1
 obtain ⟨x2, e2⟩ := hA a 2
 obtain ⟨x3, e3⟩ := hA a 3
 obtain ⟨y0, g0⟩ := hA b 0
 obtain ⟨y1, g1⟩ := hA b 1
 obtain ⟨y2, g2⟩ := hA b 2
 obtain ⟨y3, g3⟩ := hA b 3
 obtain ⟨z0, f0⟩ := hA c 0
 obtain ⟨z1, f1⟩ := hA c 1
 obtain ⟨z2, f2⟩ := hA c 2
 obtain ⟨z3, f3⟩ := hA c 3
 rcases P7 n with ⟨h1, h2⟩ | ⟨h1, h2⟩ | ⟨h1, h2⟩ | ⟨h1, h2⟩ <;> rw [h1, h2] <;> rw [h1] at hj
 · obtain rfl : j = 0 := by omega
   simp [fA, bS, dV, sm, rd, e0, g0, f0]
   simp only [← Zm.mk_mul, ← Zm.mk_add, ← Zm.mk_sub, ← Zm.mk_neg, ← Zm.mk_zero]
   exact congrArg _ (by grind)
 · rcases (show j = 0 ∨ j = 1 by omega) with rfl | rfl
   all_goals
     simp [fA, bS, dV, sm, rd, e0, g0, e1, g1, f0, f1]
     simp only [← Zm.mk_mul, ← Zm.mk_add, ← Zm.mk_sub, ← Zm.mk_neg, ← Zm.mk_zero]
     exact congrArg _ (by grind)
 · rcases (show j = 0 ∨ j = 1 by omega) with rfl | rfl
   all_goals
     simp [fA, bS, dV, sm, rd, e0, g0, e1, g1, f0, f1]
     simp only [← Zm.mk_mul, ← Zm.mk_add, ← Zm.mk_sub, ← Zm.mk_neg, ← Zm.mk_zero]
     exact congrArg _ (by grind)
 · rcases (show j = 0 ∨ j = 1 ∨ j = 2 ∨ j = 3 by omega) with rfl | rfl | rfl | rfl
   all_goals
     simp [fA, bS, dV, sm, rd, e0, g0, e1, g1, e2, g2, e3, g3, f0, f1, f2, f3]
     simp only [← Zm.mk_mul, ← Zm.mk_add, ← Zm.mk_sub, ← Zm.mk_neg, ← Zm.mk_zero]
     exact congrArg _ (by grind)
def Rw (m : Int) (n : Nat) : Type := {a : PS (Zm m) // ∀ i, kN n ≤ i → a.c i = 0}
namespace Rw
variable {n : Nat}
def cJ (n : Nat) (a : PS (Zm m)) : Rw m n := ⟨⟨fun i => if i < kN n then a.c i else 0⟩, fun i hi => if_neg (by omega)⟩
theorem Anp (a : PS (Zm m)) {i : Nat} (hi : i < kN n) : (cJ n a).1.c i = a.c i := if_pos hi
theorem ext {a b : Rw m n} (h : Ag (kN n) a.1 b.1) : a = b := Subtype.ext (PS.ext (fun i => by
 by_cases hi : i < kN n
 · exact h i hi
 · rw [a.2 i (by omega), b.2 i (by omega)]))
theorem fO (a : PS (Zm m)) : Ag (kN n) (cJ n a).1 a := fun i hi => Anp a hi
theorem jC {a b : PS (Zm m)} (h : Ag (kN n) a b) : cJ n a = cJ n b := ext (((fO a).trans h).trans (fO b).symm)
theorem At8 {a b : PS (Zm m)} : cJ n a = cJ n b ↔ Ag (kN n) a b := ⟨fun h => ((fO a).symm.trans (Ag.of_eq (congrArg Subtype.val h))).trans (fO b), jC⟩
theorem Agy (n : Nat) : 0 < kN n := by rcases P7 n with ⟨h, _⟩ | ⟨h, _⟩ | ⟨h, _⟩ | ⟨h, _⟩ <;> omega
def mul (a b : Rw m n) : Rw m n := cJ n (dI (kN n) (rd m (bX n)) a.1 b.1)
instance : CR (Rw m n) where
 add a b := cJ n (a.1 + b.1)
 mul := mul
 neg a := cJ n (-a.1)
 zero := cJ n 0
 one := cJ n 1
 add_assoc a b c := jC (((fO _).add Ag.rfl).trans ((Ag.of_eq (CR.add_assoc _ _ _)).trans (Ag.rfl.add (fO _).symm)))
 add_comm a b := jC (Ag.of_eq (CR.add_comm _ _))
 zero_add a := ext ((fO _).trans (((fO _).add Ag.rfl).trans (Ag.of_eq (CR.zero_add _))))
 neg_add a := jC (((fO _).add Ag.rfl).trans (Ag.of_eq (CR.neg_add _)))
 mul_assoc a b c := jC ((uN (fO _) Ag.rfl).trans (Ag.trans (fun j hj => Alo _ _ _ hj) (uN Ag.rfl (fO _)).symm))
 mul_comm a b := jC (fun j hj => C9 _ _ hj)
 one_mul a := ext ((fO _).trans ((uN (fO _) Ag.rfl).trans (fun j hj => by
   rw [fA, cL 0 (Agy n) (fun i hi hne => by rw [one_c, if_neg hne, Go.Fg.zero_mul]), one_c, if_pos rfl, CR.one_mul]; rfl)))
 mul_add a b c := jC ((uN Ag.rfl (fO _)).trans (Ag.trans (fun j hj => by
   rw [add_c, C9 _ _ hj, C9 _ b.1 hj, C9 _ c.1 hj, fA, fA, fA, ← fF]
   exact aR (fun i _ => by rw [add_c, Go.Fg.add_mul])) ((fO _).add (fO _)).symm))
theorem C8 (a b : PS (Zm m)) : cJ n (a + b) = cJ n a + cJ n b := jC ((fO a).add (fO b)).symm
theorem vU (a b : PS (Zm m)) : cJ n (dI (kN n) (rd m (bX n)) a b) = cJ n a * cJ n b := jC (uN (fO a) (fO b)).symm
theorem Agk : cJ n (0 : PS (Zm m)) = 0 := rfl
theorem Ahb : cJ n (1 : PS (Zm m)) = 1 := rfl
def con (m : Int) (n : Nat) : RH (Zm m) (Rw m n) where
 f x := cJ n (C x)
 add a b := by rw [← C8, lD]
 mul a b := by
   rw [← vU]
   refine jC (fun j hj => ?_)
   rw [O2 _ _ _ _ hj, iC, CR.mul_comm]
 one := rfl
theorem Aby (x : Zm m) (a : PS (Zm m)) : cJ n (C x * a) = (con m n).f x * cJ n a := by
 show _ = cJ n (C x) * cJ n a
 rw [CR.mul_comm (cJ n (C x)), ← vU]
 exact jC (fun j hj => (O2 _ _ _ _ hj).symm)
theorem con_inj {x : Zm m} {a : PS (Zm m)} (h : cJ n a = (con m n).f x) : a.c 0 = x := by
 have := At8.1 h 0 (Agy n)
 rw [this, cV, if_pos rfl]
def root (m : Int) (n : Nat) : Rw m n := cJ n (dK (kN n) (rd m (bX n)) 1)
theorem Aqw (a : PS (Zm m)) : cJ n (dK (kN n) (rd m (bX n)) a) = root m n * cJ n a := by
 unfold root
 rw [CR.mul_comm, ← vU]
 exact jC (fun j hj => (Aet _ _ _ hj).symm)
theorem Aei (a : PS (Zm m)) : ∀ i, cJ n (bS (kN n) (rd m (bX n)) i a) = pw (root m n) i * cJ n a
 | 0 => (CR.one_mul _).symm
 | i + 1 => by
   show cJ n (dK _ _ (bS _ _ i a)) = _
   rw [Aqw, Aei a i, cB, ← CR.mul_assoc, CR.mul_comm (root m n)]
theorem S3 (i : Nat) : pw (root m n) i = cJ n (bS (kN n) (rd m (bX n)) i 1) := by
 rw [Aei, Ahb, Go.Fg.mul_one]
end Rw
end
end Go.Fg
namespace Go.Fg
set_option linter.unusedVariables false
set_option linter.unusedSimpArgs false
set_option linter.unusedSectionVars false
set_option maxHeartbeats 4000000
open CR PS
namespace PS
section
variable {R : Type} [CR R]
theorem Amm {N : Nat} {a b : PS R} (ha : a.c 0 = 0) (hb : b.c 0 = 0) {g h : PS (PS R)} (H : ∀ i j, i + j < N → (g.c i).c j = (h.c i).c j) : Ag N (ev N a b g) (ev N a b h) :=
 (kP g ha hb).symm.trans ((gG H Ag.rfl Ag.rfl).trans (kP h ha hb))
theorem Aka {N : Nat} (hN : 1 ≤ N) (l : PS R) (f : PS (PS R)) {a b : PS R} (ha : a.c 0 = 0) (hb : b.c 0 = 0) :
   Ag N (ev N a b (comp2N l f 0 N)) (compN l (ev N a b f) 0 N) := by
 unfold comp2N compN
 rw [Ad7]
 refine Ag.sm (fun i _ => ?_)
 rw [Ai8 hN]
 exact Ag.rfl.mul (C3 hN f ha hb i)
theorem Akl {N : Nat} (hN : 1 ≤ N) (l : PS R) {f : PS (PS R)} (f0 : (f.c 0).c 0 = 0) {a b : PS R} (ha : a.c 0 = 0) (hb : b.c 0 = 0) :
   Ag N (comp l (evT N f a b)) (ev N a b (comp2N l f 0 N)) := by
 refine Ag.trans ?_ (Aka hN l f ha hb).symm
 refine (jT (eQ f0 ha hb) N).symm.trans ?_
 exact U3 (fun _ _ _ => rfl) (kP f ha hb)
theorem Ann {N : Nat} (hN : 1 ≤ N) {l : PS R} {f : PS (PS R)} (f0 : (f.c 0).c 0 = 0) (h : ∀ i j, i + j < N → ((comp2N l f 0 N).c i).c j = ((axX l + axY l).c i).c j) {a b : PS R} (ha : a.c 0 = 0) (hb : b.c 0 = 0) :
   Ag N (comp l (evT N f a b)) (comp l a + comp l b) := by
 refine (Akl hN l f0 ha hb).trans ((Amm ha hb h).trans ?_)
 rw [I1]
 exact (Aay hN ha b l).add (Ad9 hN a hb l)
def hY (z : R) : RH (PS R) (PS R) where
 f a := ⟨fun j => a.c j * Go.Fg.pw z j⟩
 add a b := PS.ext (fun j => Go.Fg.add_mul _ _ _)
 mul a b := PS.ext (fun j => by
   show (a * b).c j * _ = _
   rw [bW, bW, fY]
   refine aR (fun i hi => ?_)
   show a.c i * b.c (j - i) * Go.Fg.pw z j = a.c i * Go.Fg.pw z i * (b.c (j - i) * Go.Fg.pw z (j - i))
   rw [show Go.Fg.pw z j = Go.Fg.pw z i * Go.Fg.pw z (j - i) by rw [← tH, show i + (j - i) = j by omega]]
   ac_rfl)
 one := PS.ext (fun j => by
   show (1 : PS R).c j * _ = _
   rw [one_c]
   split
   · rename_i h; rw [h]; exact CR.one_mul _
   · exact Go.Fg.zero_mul _)
theorem J4 (z : R) (a : PS R) (j : Nat) : ((hY z).f a).c j = a.c j * Go.Fg.pw z j := rfl
theorem As0 (z r : R) : (hY z).f (C r) = C r := PS.ext (fun j => by
 rw [J4, cV]
 split
 · rename_i h; rw [h]; exact Go.Fg.mul_one _
 · exact Go.Fg.zero_mul _)
theorem Aol (z : R) (l a : PS R) (k n : Nat) : (hY z).f (compN l a k n) = compN l ((hY z).f a) k n := by
 unfold compN
 rw [(hY z).sm]
 exact aR (fun i _ => by rw [(hY z).mul, As0, (hY z).pw])
theorem Aop (z : R) (l a : PS R) : (hY z).f (comp l a) = comp l ((hY z).f a) := PS.ext (fun n => by
 show (compN l a 0 (n + 1)).c n * _ = (compN l ((hY z).f a) 0 (n + 1)).c n
 rw [← Aol]; rfl)
theorem Acy (z : R) {a : PS R} (h : a.c 0 = 0) : ((hY z).f a).c 0 = 0 := by rw [J4, h, Go.Fg.zero_mul]
def roots (N : Nat) (f : PS (PS R)) (z : R) (a : PS R) : Nat → PS R
 | 0 => 0
 | i + 1 => evT N f (roots N f z a i) ((hY (Go.Fg.pw z i)).f a)
theorem R4 {N : Nat} {f : PS (PS R)} (f0 : (f.c 0).c 0 = 0) (z : R) {a : PS R} (ha : a.c 0 = 0) : ∀ i, (roots N f z a i).c 0 = 0
 | 0 => rfl
 | i + 1 => eQ f0 (R4 f0 z ha i) (Acy _ ha)
theorem Asx {l : PS R} (l0 : l.c 0 = 0) : comp l 0 = 0 := PS.ext (fun i => by
 show (compN l 0 0 (i + 1)).c i = 0
 unfold compN
 rw [cL 0 (by omega) (fun j _ hne => by rw [C6 hne, Go.Fg.mul_zero]), l0, C_zero, Go.Fg.zero_mul]; rfl)
theorem Aaa {N : Nat} (hN : 1 ≤ N) {l : PS R} (l0 : l.c 0 = 0) {f : PS (PS R)} (f0 : (f.c 0).c 0 = 0) (h : ∀ i j, i + j < N → ((comp2N l f 0 N).c i).c j = ((axX l + axY l).c i).c j) (z : R) {a : PS R} (ha : a.c 0 = 0) :
   ∀ i, Ag N (comp l (roots N f z a i)) (Go.Fg.sm i fun j => (hY (Go.Fg.pw z j)).f (comp l a))
 | 0 => Ag.of_eq (Asx l0)
 | i + 1 => by
   refine (Ann hN f0 h (R4 f0 z ha i) (Acy _ ha)).trans ?_
   rw [bH, Aop]
   exact (Aaa hN l0 f0 h z ha i).add Ag.rfl
theorem Asc {z : R} {n : Nat} (h : Go.Fg.pw z n = 1) (i : Nat) : Go.Fg.pw z i = Go.Fg.pw z (i % n) := by
 have e := Nat.div_add_mod i n
 have : Go.Fg.pw z (n * (i / n) + i % n) = Go.Fg.pw z (i % n) := by
   rw [tH, ← X5, h, uU, CR.one_mul]
 rwa [e] at this
def X7 (z : R) (n : Nat) : Prop := ∀ k, Go.Fg.sm n (fun i => Go.Fg.pw z (i * k)) = if k % n = 0 then nc R n else 0
def trn (n : Nat) (g : PS R) : PS R := ⟨fun j => if j % n = 0 then nc R n * g.c j else 0⟩
theorem At4 {z : R} {n : Nat} (h : X7 z n) (g : PS R) : (Go.Fg.sm n fun j => (hY (Go.Fg.pw z j)).f g) = trn n g := PS.ext (fun k => by
 rw [sm_c]
 have e : ∀ i, i < n → ((hY (Go.Fg.pw z i)).f g).c k = g.c k * Go.Fg.pw z (i * k) := fun i _ => by rw [J4, X5]
 rw [aR e, ← fQ, h k]
 show _ = if k % n = 0 then nc R n * g.c k else 0
 split
 · exact CR.mul_comm _ _
 · exact Go.Fg.mul_zero _)
theorem Anj (n : Nat) : nc R n = Go.Fg.sm n fun _ => 1 := by
 induction n with
 | zero => rfl
 | succ n ih => rw [bH, ← ih]; rfl
theorem Ahw (z : R) : ∀ n, 1 + z * Go.Fg.sm n (fun i => Go.Fg.pw z i) = Go.Fg.sm n (fun i => Go.Fg.pw z i) + Go.Fg.pw z n
 | 0 => by rw [fI, Go.Fg.mul_zero, CR.zero_add, Go.Fg.add_zero]; rfl
 | n + 1 => by
   rw [bH, CR.mul_add, ← CR.add_assoc, Ahw z n, CR.add_assoc, CR.add_assoc, CR.mul_comm z]
   rfl
theorem Ara {z : R} {n : Nat} (hn : 2 ≤ n ∧ n ≤ 5) (h2 : Go.Fg.sm n (fun i => Go.Fg.pw z i) = 0) (h3 : n = 4 → 1 + z * z = 0) : X7 z n := by
 have h1 : Go.Fg.pw z n = 1 := by
   have := Ahw z n
   rw [h2, Go.Fg.mul_zero, Go.Fg.add_zero, CR.zero_add] at this
   exact this.symm
 intro k
 have e : ∀ i, Go.Fg.pw z (i * k) = Go.Fg.pw z (i * (k % n) % n) := fun i => by rw [Asc h1, Nat.mul_mod, Nat.mul_mod i (k % n), Nat.mod_mod]
 rw [aR (fun i _ => e i)]
 have hr : k % n < n := Nat.mod_lt _ (by omega)
 generalize k % n = r at *
 by_cases h0 : r = 0
 · subst h0
   rw [if_pos rfl, Anj]
   exact aR (fun i _ => by rw [Nat.mul_zero, Nat.zero_mod]; rfl)
 · rw [if_neg h0]
   rcases (show n = 2 ∨ n = 3 ∨ n = 4 ∨ n = 5 by omega) with rfl | rfl | rfl | rfl
   · obtain rfl : r = 1 := by omega
     exact h2
   · rcases (show r = 1 ∨ r = 2 by omega) with rfl | rfl
     · exact h2
     · rw [← h2]
       simp only [bH, fI, CR.zero_add, show 0 * 2 % 3 = 0 from rfl, show 1 * 2 % 3 = 2 from rfl, show 2 * 2 % 3 = 1 from rfl]
       ac_rfl
   · have h4 := h3 rfl
     rcases (show r = 1 ∨ r = 2 ∨ r = 3 by omega) with rfl | rfl | rfl
     · exact h2
     · simp only [bH, fI, CR.zero_add, show 0 * 2 % 4 = 0 from rfl, show 1 * 2 % 4 = 2 from rfl, show 2 * 2 % 4 = 0 from rfl, show 3 * 2 % 4 = 2 from rfl]
       have e5 : Go.Fg.pw z 2 = z * z := by rw [cB, pw_one]
       rw [pw_zero, e5, h4, CR.zero_add]
       exact h4
     · rw [← h2]
       simp only [bH, fI, CR.zero_add, show 0 * 3 % 4 = 0 from rfl, show 1 * 3 % 4 = 3 from rfl, show 2 * 3 % 4 = 2 from rfl, show 3 * 3 % 4 = 1 from rfl]
       ac_rfl
   · rcases (show r = 1 ∨ r = 2 ∨ r = 3 ∨ r = 4 by omega) with rfl | rfl | rfl | rfl
     · exact h2
     · rw [← h2]
       simp only [bH, fI, CR.zero_add, show 0 * 2 % 5 = 0 from rfl, show 1 * 2 % 5 = 2 from rfl, show 2 * 2 % 5 = 4 from rfl, show 3 * 2 % 5 = 1 from rfl, show 4 * 2 % 5 = 3 from rfl]
       ac_rfl
     · rw [← h2]
       simp only [bH, fI, CR.zero_add, show 0 * 3 % 5 = 0 from rfl, show 1 * 3 % 5 = 3 from rfl, show 2 * 3 % 5 = 1 from rfl, show 3 * 3 % 5 = 4 from rfl, show 4 * 3 % 5 = 2 from rfl]
       ac_rfl
     · rw [← h2]
       simp only [bH, fI, CR.zero_add, show 0 * 4 % 5 = 0 from rfl, show 1 * 4 % 5 = 4 from rfl, show 2 * 4 % 5 = 3 from rfl, show 3 * 4 % 5 = 2 from rfl, show 4 * 4 % 5 = 1 from rfl]
       ac_rfl
end
end PS
section
variable {m : Int}
namespace Rw
theorem root_prim {n : Nat} (hn : 2 ≤ n ∧ n ≤ 5) : X7 (root m n) n := by
 have e1 : ∀ k, Go.Fg.sm k (fun i => Go.Fg.pw (root m n) i) = cJ n (Go.Fg.sm k fun i => bS (kN n) (rd m (bX n)) i 1) := fun k => by
   induction k with
   | zero => rfl
   | succ k ih => rw [bH, bH, ih, S3, C8]
 refine Ara hn ?_ (fun h4 => ?_)
 · rw [e1, ← Agk]
   refine jC (fun j hj => ?_)
   rcases (show n = 2 ∨ n = 3 ∨ n = 4 ∨ n = 5 by omega) with rfl | rfl | rfl | rfl
   · obtain rfl : j = 0 := by simp only [kN] at hj; omega
     simp [kN, bX, bS, dV, rd, one_c, sm, add_c, gD]
     simp only [← Zm.mk_one, ← Zm.mk_mul, ← Zm.mk_add, ← Zm.mk_sub, ← Zm.mk_neg, ← Zm.mk_zero]
     exact congrArg _ (by grind)
   · rcases (show j = 0 ∨ j = 1 by simp only [kN] at hj; omega) with rfl | rfl
     all_goals
       simp [kN, bX, bS, dV, rd, one_c, sm, add_c, gD]
       simp only [← Zm.mk_one, ← Zm.mk_mul, ← Zm.mk_add, ← Zm.mk_sub, ← Zm.mk_neg, ← Zm.mk_zero]
       exact congrArg _ (by grind)
   · rcases (show j = 0 ∨ j = 1 by simp only [kN] at hj; omega) with rfl | rfl
     all_goals
       simp [kN, bX, bS, dV, rd, one_c, sm, add_c, gD]
       simp only [← Zm.mk_one, ← Zm.mk_mul, ← Zm.mk_add, ← Zm.mk_sub, ← Zm.mk_neg, ← Zm.mk_zero]
       exact congrArg _ (by grind)
   · rcases (show j = 0 ∨ j = 1 ∨ j = 2 ∨ j = 3 by simp only [kN] at hj; omega) with rfl | rfl | rfl | rfl
     all_goals
       simp [kN, bX, bS, dV, rd, one_c, sm, add_c, gD]
       simp only [← Zm.mk_one, ← Zm.mk_mul, ← Zm.mk_add, ← Zm.mk_sub, ← Zm.mk_neg, ← Zm.mk_zero]
       exact congrArg _ (by grind)
 · subst h4
   have e2 : root m 4 * root m 4 = pw (root m 4) 2 := by rw [cB, pw_one]
   rw [e2, S3, ← Ahb, ← C8, ← Agk]
   refine jC (fun j hj => ?_)
   rcases (show j = 0 ∨ j = 1 by simp only [kN] at hj; omega) with rfl | rfl
   all_goals
     simp [kN, bX, bS, dV, rd, one_c, sm, add_c, gD]
     simp only [← Zm.mk_one, ← Zm.mk_mul, ← Zm.mk_add, ← Zm.mk_sub, ← Zm.mk_neg, ← Zm.mk_zero]
     exact congrArg _ (by grind)
def cutS (n : Nat) (f : PS (PS (Zm m))) : PS (Rw m n) := ⟨fun i => cJ n (f.c i)⟩
theorem K0 (n : Nat) (f : PS (PS (Zm m))) (i : Nat) : (cutS n f).c i = cJ n (f.c i) := rfl
theorem Aj1 {n : Nat} (k : Nat) (u : Nat → PS (Zm m)) : cJ n (Go.Fg.sm k u) = Go.Fg.sm k fun i => cJ n (u i) := by
 induction k with
 | zero => rfl
 | succ k ih => rw [bH, bH, C8, ih]
theorem Agi {n N : Nat} (f g : PS (PS (Zm m))) : Ag N (cutS n (fW (kN n) (rd m (bX n)) N f g)) (cutS n f * cutS n g) := fun i hi => by
 rw [K0, bW]
 unfold fW
 rw [lG, if_neg (by omega), Go.Fg.add_zero, Aj1, mG (n := i + 1) (by omega) (fun a h1 _ => by rw [if_neg (by omega)]; rfl)]
 exact aR (fun a ha => by rw [if_pos (by omega), vU]; rfl)
theorem M7 {n N : Nat} (a : PS (PS (Zm m))) : ∀ i, Ag N (cutS n (eC (kN n) (rd m (bX n)) N a i)) (pw (cutS n a) i)
 | 0 => Ag.of_eq (PS.ext (fun i => by
   show cJ n ((1 : PS (PS (Zm m))).c i) = (1 : PS (Rw m n)).c i
   rw [one_c, one_c]
   split <;> rfl))
 | i + 1 => (Agi _ _).trans ((M7 a i).mul Ag.rfl)
theorem Aan {n : Nat} (k : Nat) (u : Nat → PS (PS (Zm m))) : cutS n (Go.Fg.sm k u) = Go.Fg.sm k fun i => cutS n (u i) := PS.ext (fun j => by
 rw [K0, sm_c, sm_c, Aj1]; rfl)
theorem Art {n N : Nat} (f a b : PS (PS (Zm m))) : Ag N (cutS n (gR (kN n) (rd m (bX n)) N f a b)) (evT N ((con m n).pp.f f) (cutS n a) (cutS n b)) := by
 have e : gR (kN n) (rd m (bX n)) N f a b = sm N (fun i => sm (N - i) fun j => PS.C (PS.C ((f.c i).c j)) * fW (kN n) (rd m (bX n)) N (eC (kN n) (rd m (bX n)) N a i) (eC (kN n) (rd m (bX n)) N b j)) := by
   unfold gR eB
   exact Go.Fg.add_zero _
 rw [e, Aan]
 unfold evT
 refine Ag.sm (fun i _ => ?_)
 rw [Aan]
 refine Ag.sm (fun j _ => ?_)
 have e2 : ∀ (x : Zm m) (g : PS (PS (Zm m))), cutS n (PS.C (PS.C x) * g) = C ((con m n).f x) * cutS n g := fun x g => PS.ext (fun i => by
   rw [K0, C_mul, C_mul, Aby]; rfl)
 rw [e2]
 exact Ag.rfl.mul ((Agi _ _).trans ((M7 a i).mul (M7 b j)))
theorem Afe {n : Nat} (s : PS (Zm m)) : ∀ j, cJ n (iG (kN n) (rd m (bX n)) s j) = pw (cJ n s) j
 | 0 => rfl
 | j + 1 => by
   show cJ n (dI _ _ (iG _ _ s j) s) = _
   rw [vU, Afe s j, cB]
theorem Ar1 {n : Nat} (i : Nat) (a : PS (Zm m)) : cutS n (kA (kN n) (rd m (bX n)) (bS (kN n) (rd m (bX n)) i 1) a) = (hY (pw (root m n) i)).f ((con m n).ps.f a) := PS.ext (fun j => by
 show cJ n (C (a.c j) * iG _ _ _ j) = (con m n).f (a.c j) * pw (pw (root m n) i) j
 rw [Aby, Afe, S3])
theorem cutS_fr {n N : Nat} (f : PS (PS (Zm m))) (a : PS (Zm m)) : ∀ i, Ag N (cutS n (dJ (kN n) (rd m (bX n)) N f a i)) (roots N ((con m n).pp.f f) (root m n) ((con m n).ps.f a) i)
 | 0 => Ag.of_eq (PS.ext (fun j => rfl))
 | i + 1 => (Art _ _ _).trans (gG (fun _ _ _ => rfl) (cutS_fr f a i) (Ag.of_eq (Ar1 i a)))
end Rw
end
end Go.Fg
namespace Go.Fg
set_option linter.unusedVariables false
set_option linter.unusedSimpArgs false
set_option linter.unusedSectionVars false
set_option maxHeartbeats 4000000
open CR PS
namespace RH
variable {R S : Type} [CR R] [CR S] (φ : RH R S)
theorem nc : ∀ k, φ.f (Go.Fg.nc R k) = Go.Fg.nc S k
 | 0 => φ.zero
 | k + 1 => by show φ.f (Go.Fg.nc R k + 1) = Go.Fg.nc S k + 1; rw [φ.add, nc k, φ.one]
theorem compN (a b : PS R) (k n : Nat) : φ.ps.f (Go.Fg.PS.compN a b k n) = Go.Fg.PS.compN (φ.ps.f a) (φ.ps.f b) k n := by
 unfold Go.Fg.PS.compN
 rw [φ.ps.sm]
 exact aR (fun i _ => by rw [φ.ps.mul, φ.ps.pw, φ.ps_C]; rfl)
theorem comp (a b : PS R) : φ.ps.f (Go.Fg.PS.comp a b) = Go.Fg.PS.comp (φ.ps.f a) (φ.ps.f b) := PS.ext (fun n => by
 show φ.f ((Go.Fg.PS.compN a b 0 (n + 1)).c n) = (Go.Fg.PS.compN (φ.ps.f a) (φ.ps.f b) 0 (n + 1)).c n
 rw [← φ.compN]; rfl)
theorem trn (n : Nat) (g : PS R) : φ.ps.f (Go.Fg.PS.trn n g) = Go.Fg.PS.trn n (φ.ps.f g) := PS.ext (fun j => by
 show φ.f (if j % n = 0 then Go.Fg.nc R n * g.c j else 0) = if j % n = 0 then Go.Fg.nc S n * φ.f (g.c j) else 0
 split
 · rw [φ.mul, φ.nc]
 · exact φ.zero)
end RH
namespace PS
section
variable {R : Type} [CR R]
def vs (n : Nat) (b : PS R) : PS R := comp b (mono n 1)
theorem Aix {n : Nat} (hn : 1 ≤ n) (r : R) : (mono n r).c 0 = 0 := by rw [bT, if_neg (by omega)]
theorem jI {n : Nat} (hn : 1 ≤ n) (b : PS R) (j : Nat) : (vs n b).c j = if j % n = 0 then b.c (j / n) else 0 := by
 show (compN b (mono n 1) 0 (j + 1)).c j = _
 unfold compN
 rw [sm_c]
 have e : ∀ i, (C (b.c (0 + i)) * Go.Fg.pw (mono n (1 : R)) i).c j = if j = i * n then b.c i else 0 := fun i => by
   rw [C_mul, zG, bT, uU, Nat.zero_add]
   split
   · exact Go.Fg.mul_one _
   · exact Go.Fg.mul_zero _
 rw [aR (fun i _ => e i)]
 have hd := Nat.div_add_mod j n
 have hle := Nat.div_le_self j n
 by_cases h : j % n = 0
 · rw [if_pos h, cL (j / n) (by omega) (fun i _ hne => if_neg (fun e2 => hne (by rw [e2, Nat.mul_div_cancel _ (by omega)])))]
   rw [if_pos (by rw [Nat.mul_comm]; omega)]
 · rw [if_neg h]
   exact cN (fun i _ => if_neg (fun e2 => h (by rw [e2]; exact Nat.mul_mod_left _ _)))
theorem xT {n : Nat} (hn : 1 ≤ n) (b : PS R) (i : Nat) : (vs n b).c (i * n) = b.c i := by
 rw [jI hn, if_pos (Nat.mul_mod_left _ _), Nat.mul_div_cancel _ (by omega)]
theorem Aa5 {n : Nat} (hn : 1 ≤ n) (l : PS R) {b : PS R} (hb : b.c 0 = 0) : comp l (vs n b) = vs n (comp l b) := (wT l hb (Aix hn 1)).symm
theorem rV {n : Nat} (hn : 1 ≤ n) {b : PS R} (hb : b.c 0 = 0) : (vs n b).c 0 = 0 := by rw [jI hn, Nat.zero_mod, if_pos rfl, Nat.zero_div, hb]
theorem Ajt {n : Nat} (hn : 1 ≤ n) (g : PS R) : trn n (vs n g) = vs n (C (nc R n) * g) := PS.ext (fun j => by
 show (if j % n = 0 then nc R n * (vs n g).c j else 0) = _
 rw [jI hn, jI hn, C_mul]
 split <;> rfl)
def eY (n : Nat) (g : PS R) : Prop := ∀ j, j % n ≠ 0 → g.c j = 0
theorem eY.mul {n : Nat} {g h : PS R} (hg : eY n g) (hh : eY n h) : eY n (g * h) := fun j hj => by
 rw [bW]
 refine cN (fun i hi => ?_)
 by_cases h1 : i % n = 0
 · rw [hh (j - i) (fun h2 => hj (by
     have e : j = i + (j - i) := by omega
     rw [e, Nat.add_mod, h1, h2]; rfl)), Go.Fg.mul_zero]
 · rw [hg i h1, Go.Fg.zero_mul]
theorem eY.C (n : Nat) (r : R) : eY n (C r) := fun j hj => by
 rw [cV, if_neg (fun e => hj (by rw [e]; exact Nat.zero_mod _))]
theorem eY.pw {n : Nat} {g : PS R} (h : eY n g) : ∀ k, eY n (Go.Fg.pw g k)
 | 0 => eY.C n 1
 | k + 1 => (eY.pw h k).mul h
theorem eY.sm {n : Nat} (k : Nat) {u : Nat → PS R} (h : ∀ i, eY n (u i)) : eY n (Go.Fg.sm k u) := fun j hj => by
 rw [sm_c]; exact cN (fun i _ => h i j hj)
theorem eY.comp {n : Nat} (e : PS R) {g : PS R} (h : eY n g) : eY n (comp e g) := fun j hj =>
 eY.sm (j + 1) (u := fun i => PS.C (e.c (0 + i)) * Go.Fg.pw g i) (fun i => (eY.C n _).mul (h.pw i)) j hj
theorem eY.trn (n : Nat) (g : PS R) : eY n (trn n g) := fun j hj => if_neg hj
theorem Aem {N n : Nat} {g h : PS R} (e : Ag N g h) : Ag N (trn n g) (trn n h) := fun j hj => by
 show (if j % n = 0 then _ else _) = (if j % n = 0 then _ else _)
 rw [e j hj]
theorem Apz (n : Nat) (g h : PS R) : trn n (g + h) = trn n g + trn n h := PS.ext (fun j => by
 rw [add_c]
 show (if j % n = 0 then nc R n * (g + h).c j else 0) = (if j % n = 0 then nc R n * g.c j else 0) + (if j % n = 0 then nc R n * h.c j else 0)
 split
 · rw [add_c, CR.mul_add]
 · exact (CR.zero_add _).symm)
theorem Ams {n : Nat} {g : PS R} (h : g.c 0 = 0) : (trn n g).c 0 = 0 := by
 show (if 0 % n = 0 then nc R n * g.c 0 else 0) = 0
 rw [h, Go.Fg.mul_zero]; split <;> rfl
theorem Afh {l b : PS R} (hl : l.c 0 = 0) : (comp l b).c 0 = 0 := by
 show (compN l b 0 1).c 0 = 0
 unfold compN
 rw [bH, fI, CR.zero_add, Nat.add_zero, hl, C_zero, Go.Fg.zero_mul]; rfl
def nmT (N : Nat) (f : PS (PS R)) (a : PS R) : Nat → PS R
 | 0 => 0
 | k + 1 => evT N f (nmT N f a k) a
theorem RH.nmT {S : Type} [CR S] (φ : RH R S) (N : Nat) (f : PS (PS R)) (a : PS R) : ∀ k, φ.ps.f (Go.Fg.PS.nmT N f a k) = Go.Fg.PS.nmT N (φ.pp.f f) (φ.ps.f a) k
 | 0 => φ.ps.zero
 | k + 1 => by
   show φ.ps.f (evT N f _ a) = evT N _ _ _
   rw [φ.evT, RH.nmT φ N f a k]
theorem Y9 {f : PS (PS R)} {N : Nat} (L : LwN f N) {a : PS R} (ha : a.c 0 = 0) : ∀ k, Ag N (L.G.nm k (cv N a)).1 (nmT N f a k) ∧ (nmT N f a k).c 0 = 0
 | 0 => ⟨iE (a := (0 : PS R)) rfl, rfl⟩
 | k + 1 => by
   obtain ⟨h1, h2⟩ := Y9 L ha k
   refine ⟨?_, L.e0 h2 ha⟩
   refine (iE (L.e0 (L.G.nm k (cv N a)).2.1 (cv N a).2.1)).trans ?_
   exact gG (fun _ _ _ => rfl) h1 (iE ha)
end
def cQ {m : Int} (N n : Nat) (f : PS (PS (Zm m))) (a : PS (Zm m)) : PS (Zm m) := ⟨fun i => ((dJ (kN n) (rd m (bX n)) N f a n).c (i * n)).c 0⟩
section
variable {M : Int} {f : PS (PS (Zm M))} {N : Nat} {l : PS (Zm M)}
structure Lg (f : PS (PS (Zm M))) (N : Nat) (l : PS (Zm M)) : Prop where
 l0 : l.c 0 = 0
 l1 : l.c 1 = 1
 ok : aW N (comp2N l f 0 N) (axX l + axY l)
theorem Q0 (L : LwN f N) (hU : ∀ i, 1 ≤ i → i < N → ∃ u, nc (Zm M) i * u = 1) : ∃ l, Lg f N l := by
 have hN := L.pos
 have hu : ∀ i, ∃ u, 1 ≤ i → i < N → nc (Zm M) i * u = 1 := fun i => by
   by_cases h : 1 ≤ i ∧ i < N
   · obtain ⟨u, hu⟩ := hU i h.1 h.2
     exact ⟨u, fun _ _ => hu⟩
   · exact ⟨0, fun h1 h2 => absurd ⟨h1, h2⟩ h⟩
 obtain ⟨w, hw⟩ : ∃ w : Nat → Zm M, ∀ i, 1 ≤ i → i < N → nc (Zm M) i * w i = 1 := ⟨fun i => Classical.choose (hu i), fun i => Classical.choose_spec (hu i)⟩
 have hq : inv 1 (f.c 1) * f.c 1 = 1 := by rw [CR.mul_comm]; exact An8 (by rw [L.z1]; exact CR.one_mul _)
 have hl : Ag (N - 1) (dS (⟨fun k => if k = 0 then 0 else w k * (inv 1 (f.c 1)).c (k - 1)⟩ : PS (Zm M))) (inv 1 (f.c 1)) := fun k hk => by
   show nc (Zm M) (k + 1) * (if k + 1 = 0 then 0 else w (k + 1) * (inv 1 (f.c 1)).c (k + 1 - 1)) = _
   rw [if_neg (by omega), ← CR.mul_assoc, hw (k + 1) (by omega) (by omega), CR.one_mul, Nat.add_sub_cancel]
 refine ⟨_, rfl, ?_, L.log (Ag.of_eq hq) hl rfl hU⟩
 have := hl 0 (by omega)
 have e : (dS (⟨fun k => if k = 0 then 0 else w k * (inv 1 (f.c 1)).c (k - 1)⟩ : PS (Zm M))).c 0 = nc (Zm M) 1 * (if 1 = 0 then 0 else w 1 * (inv 1 (f.c 1)).c (1 - 1)) := rfl
 rw [e, xO, CR.one_mul, Aid] at this
 exact this
theorem Lg.inj (hl : Lg f N l) {u v : PS (Zm M)} (hu : u.c 0 = 0) (hv : v.c 0 = 0) (h : Ag N (comp l u) (comp l v)) : Ag N u v := by
 have e1 : comp (bU 1 l) l = X := Ack hl.l0 (by rw [hl.l1]; exact CR.one_mul _)
 have e2 : ∀ {u : PS (Zm M)}, u.c 0 = 0 → comp (bU 1 l) (comp l u) = u := fun hu => by
   rw [← wT _ hl.l0 hu, e1, yZ hu]
 exact ((Ag.of_eq (e2 hu).symm).trans (iX Ag.rfl h)).trans (Ag.of_eq (e2 hv))
theorem Apy {n : Nat} (hn : 2 ≤ n ∧ n ≤ 5) (L : LwN f N) (hl : Lg f N l) {a : PS (Zm M)} (ha : a.c 0 = 0) :
   Ag N (Rw.cutS n (dJ (kN n) (rd M (bX n)) N f a n)) ((Rw.con M n).ps.f (comp (bU 1 l) (trn n (comp l a)))) := by
 have hN := L.pos
 have e1 : comp (bU 1 l) l = X := Ack hl.l0 (by rw [hl.l1]; exact CR.one_mul _)
 refine (Rw.cutS_fr f a n).trans ?_
 have f0 : (((Rw.con M n).pp.f f).c 0).c 0 = 0 := by rw [RH.pp_cc, L.z0, (Rw.con M n).zero]
 have ha' : ((Rw.con M n).ps.f a).c 0 = 0 := by rw [RH.ps_c, ha, (Rw.con M n).zero]
 have l0' : ((Rw.con M n).ps.f l).c 0 = 0 := by rw [RH.ps_c, hl.l0, (Rw.con M n).zero]
 have key := Aaa (l := (Rw.con M n).ps.f l) (f := (Rw.con M n).pp.f f) (N := N) (by omega) l0' f0 (fun i j hij => by
   rw [← (Rw.con M n).comp2N, RH.pp_cc, hl.ok i j hij, ← (Rw.con M n).axX, ← (Rw.con M n).axY, ← (Rw.con M n).pp.add, RH.pp_cc]) (Rw.root M n) ha' n
 rw [At4 (Rw.root_prim hn), ← (Rw.con M n).comp, ← (Rw.con M n).trn] at key
 have r0 := R4 f0 (Rw.root M n) ha' (N := N) n
 have e2 := iX (a := (Rw.con M n).ps.f (bU 1 l)) (N := N) Ag.rfl key
 have e3 : comp ((Rw.con M n).ps.f (bU 1 l)) (comp ((Rw.con M n).ps.f l) (roots N ((Rw.con M n).pp.f f) (Rw.root M n) ((Rw.con M n).ps.f a) n)) = roots N ((Rw.con M n).pp.f f) (Rw.root M n) ((Rw.con M n).ps.f a) n := by
   rw [← wT _ l0' r0, ← (Rw.con M n).comp, e1, (Rw.con M n).ps_X, yZ r0]
 rw [e3, ← (Rw.con M n).comp] at e2
 exact e2
theorem Ady {n : Nat} (hn : 2 ≤ n ∧ n ≤ 5) (L : LwN f N) (hl : Lg f N l) {a : PS (Zm M)} (ha : a.c 0 = 0) :
   Ag N (vs n (cQ N n f a)) (comp (bU 1 l) (trn n (comp l a))) := fun j hj => by
 rw [jI (by omega)]
 by_cases h : j % n = 0
 · rw [if_pos h]
   have e := Apy hn L hl ha j hj
   have h2 := Rw.con_inj e
   show ((dJ (kN n) (rd M (bX n)) N f a n).c (j / n * n)).c 0 = _
   rw [Nat.div_mul_cancel (Nat.dvd_of_mod_eq_zero h)]
   exact h2
 · rw [if_neg h, (eY.trn n (comp l a)).comp (bU 1 l) j h]
theorem vH {n : Nat} (hn : 2 ≤ n ∧ n ≤ 5) (L : LwN f N) (hl : Lg f N l) {a : PS (Zm M)} (ha : a.c 0 = 0) : (cQ N n f a).c 0 = 0 := by
 have hN := L.pos
 have := Ady hn L hl ha 0 (by omega)
 rw [jI (by omega), Nat.zero_mod, if_pos rfl, Nat.zero_div] at this
 rw [this]
 exact Afh rfl
theorem C5 {n : Nat} (hn : 2 ≤ n ∧ n ≤ 5) (L : LwN f N) (hl : Lg f N l) {a : PS (Zm M)} (ha : a.c 0 = 0) :
   Ag N (comp l (vs n (cQ N n f a))) (trn n (comp l a)) := by
 have e1 : comp l (bU 1 l) = X := M2 hl.l0 (by rw [hl.l1]; exact CR.one_mul _)
 have t0 : (trn n (comp l a)).c 0 = 0 := Ams (Afh hl.l0)
 refine (iX Ag.rfl (Ady hn L hl ha)).trans (Ag.of_eq ?_)
 rw [← wT _ rfl t0, e1, yZ t0]
theorem Alk {n : Nat} (hn : 2 ≤ n ∧ n ≤ 5) (L : LwN f N) (hl : Lg f N l) {a b : PS (Zm M)} (ha : a.c 0 = 0) (hb : b.c 0 = 0) {i : Nat} (hi : i * n < N) :
   (cQ N n f (evT N f a b)).c i = (evT N f (cQ N n f a) (cQ N n f b)).c i := by
 have hN := L.pos
 have s0 := L.e0 ha hb
 have A0 := vH hn L hl ha
 have B0 := vH hn L hl hb
 have h : Ag N (vs n (cQ N n f (evT N f a b))) (vs n (evT N f (cQ N n f a) (cQ N n f b))) := by
   refine hl.inj (rV (by omega) (vH hn L hl s0)) (rV (by omega) (L.e0 A0 B0)) ?_
   refine (C5 hn L hl s0).trans ?_
   refine (Aem (P6 (by omega) L.z0 hl.ok ha hb)).trans ?_
   rw [Apz]
   refine ((C5 hn L hl ha).symm.add (C5 hn L hl hb).symm).trans ?_
   refine (P6 (by omega) L.z0 hl.ok (rV (by omega) A0) (rV (by omega) B0)).symm.trans ?_
   exact iX Ag.rfl (Ac4 (by omega) f _ _ (Aix (by omega) 1)).symm
 have := h (i * n) hi
 rwa [xT (by omega), xT (by omega)] at this
theorem Avp {n : Nat} (hn : 2 ≤ n ∧ n ≤ 5) (L : LwN f N) (hl : Lg f N l) {a a' : PS (Zm M)} (ha : a.c 0 = 0) (ha' : a'.c 0 = 0) (h : Ag N a' (vs n a)) {i : Nat} (hi : i * n < N) :
   (cQ N n f a').c i = (nmT N f a n).c i := by
 have hN := L.pos
 obtain ⟨g1, g2⟩ := Y9 L ha n
 have h2 : Ag N (vs n (cQ N n f a')) (vs n (nmT N f a n)) := by
   refine hl.inj (rV (by omega) (vH hn L hl ha')) (rV (by omega) g2) ?_
   refine (C5 hn L hl ha').trans ?_
   refine (Aem (iX Ag.rfl h)).trans ?_
   rw [Aa5 (by omega) l ha, Ajt (by omega), Aa5 (by omega) l g2]
   refine iX (Ag.symm ?_) Ag.rfl
   refine (iX Ag.rfl g1.symm).trans ((Aik L hl.l0 hl.ok (cv N a) n).trans ?_)
   exact Ag.rfl.mul (iX Ag.rfl (iE ha))
 have := h2 (i * n) hi
 rwa [xT (by omega), xT (by omega)] at this
end
end PS
end Go.Fg
namespace Go.Fg
set_option linter.unusedVariables false
set_option linter.unusedSimpArgs false
set_option linter.unusedSectionVars false
set_option maxHeartbeats 4000000
open CR PS
namespace PS
section
variable {m m' : Int} (φ : RH (Zm m) (Zm m'))
theorem Ak4 (k : Nat) (ρ a : PS (Zm m)) : φ.ps.f (dK k ρ a) = dK k (φ.ps.f ρ) (φ.ps.f a) := PS.ext (fun j => by
 rw [RH.ps_c, dV, dV]
 split
 · rw [φ.add, φ.mul]
   congr 1
   split
   · exact φ.zero
   · rfl
 · exact φ.zero)
theorem V8 (k : Nat) (ρ a : PS (Zm m)) : ∀ i, φ.ps.f (bS k ρ i a) = bS k (φ.ps.f ρ) i (φ.ps.f a)
 | 0 => rfl
 | i + 1 => by
   show φ.ps.f (dK k ρ (bS k ρ i a)) = dK k _ (bS k _ i _)
   rw [Ak4, V8 k ρ a i]
theorem V3 (k : Nat) (ρ a b : PS (Zm m)) : φ.ps.f (dI k ρ a b) = dI k (φ.ps.f ρ) (φ.ps.f a) (φ.ps.f b) := PS.ext (fun j => by
 rw [RH.ps_c, fA, fA, φ.sm]
 exact aR (fun i _ => by rw [φ.mul, ← V8]; rfl))
theorem Aa3 (k : Nat) (ρ : PS (Zm m)) (N : Nat) (f g : PS (PS (Zm m))) : φ.pp.f (fW k ρ N f g) = fW k (φ.ps.f ρ) N (φ.pp.f f) (φ.pp.f g) := PS.ext (fun n => by
 show φ.ps.f ((fW k ρ N f g).c n) = _
 unfold fW
 rw [lG, lG, φ.ps.add, φ.ps.sm]
 congr 1
 · refine aR (fun i _ => ?_)
   split
   · rw [V3]; rfl
   · exact φ.ps.zero
 · split
   · rw [V3]; rfl
   · exact φ.ps.zero)
theorem L8 (k : Nat) (ρ : PS (Zm m)) (N : Nat) (a : PS (PS (Zm m))) : ∀ i, φ.pp.f (eC k ρ N a i) = eC k (φ.ps.f ρ) N (φ.pp.f a) i
 | 0 => φ.pp.one
 | i + 1 => by
   show φ.pp.f (fW k ρ N (eC k ρ N a i) a) = _
   rw [Aa3, L8 k ρ N a i]; rfl
theorem tU (k : Nat) (ρ : PS (Zm m)) (N : Nat) (f a b : PS (PS (Zm m))) : gR k ρ N f a b = Go.Fg.sm N (fun i => Go.Fg.sm (N - i) fun j => PS.C (PS.C ((f.c i).c j)) * fW k ρ N (eC k ρ N a i) (eC k ρ N b j)) := by
 unfold gR eB
 exact Go.Fg.add_zero _
theorem Aph (k : Nat) (ρ : PS (Zm m)) (N : Nat) (f a b : PS (PS (Zm m))) : φ.pp.f (gR k ρ N f a b) = gR k (φ.ps.f ρ) N (φ.pp.f f) (φ.pp.f a) (φ.pp.f b) := by
 rw [tU, tU, φ.pp.sm]
 refine aR (fun i _ => ?_)
 rw [φ.pp.sm]
 refine aR (fun j _ => ?_)
 rw [φ.pp.mul, Aa3, L8, L8]
 congr 1
 show φ.ps.ps.f (C (C _)) = _
 rw [φ.ps.ps_C, φ.ps_C]; rfl
theorem Abb (k : Nat) (ρ s : PS (Zm m)) : ∀ j, φ.ps.f (iG k ρ s j) = iG k (φ.ps.f ρ) (φ.ps.f s) j
 | 0 => φ.ps.one
 | j + 1 => by
   show φ.ps.f (dI k ρ (iG k ρ s j) s) = _
   rw [V3, Abb k ρ s j]; rfl
theorem Aw8 (k : Nat) (ρ s a : PS (Zm m)) : φ.pp.f (kA k ρ s a) = kA k (φ.ps.f ρ) (φ.ps.f s) (φ.ps.f a) := PS.ext (fun j => by
 show φ.ps.f (C (a.c j) * iG k ρ s j) = C (φ.f (a.c j)) * iG k _ _ j
 rw [φ.ps.mul, φ.ps_C, Abb])
theorem Acz (k : Nat) (ρ : PS (Zm m)) (N : Nat) (f : PS (PS (Zm m))) (a : PS (Zm m)) : ∀ i, φ.pp.f (dJ k ρ N f a i) = dJ k (φ.ps.f ρ) N (φ.pp.f f) (φ.ps.f a) i
 | 0 => φ.pp.zero
 | i + 1 => by
   show φ.pp.f (gR k ρ N f (dJ k ρ N f a i) (kA k ρ (bS k ρ i 1) a)) = _
   rw [Aph, Acz k ρ N f a i, Aw8, V8, φ.ps.one]; rfl
theorem Aiy (k : Nat) (ρ : PS (Zm m)) (N : Nat) {f g : PS (PS (Zm m))} (h : aW N f g) (a : PS (Zm m)) : ∀ i, dJ k ρ N f a i = dJ k ρ N g a i
 | 0 => rfl
 | i + 1 => by
   show gR k ρ N f (dJ k ρ N f a i) _ = gR k ρ N g (dJ k ρ N g a i) _
   rw [Aiy k ρ N h a i, tU, tU]
   exact aR (fun p hp => aR (fun q hq => by rw [h p q (by omega)]))
end
theorem P5 {a b : Zm 0} (h : ∀ K : Nat, (cM (2520 * (K : Int) + 1)).f a = (cM (2520 * (K : Int) + 1)).f b) : a = b := by
 refine Zm.val_inj ?_
 have h1 := h (a.val - b.val).natAbs
 have h2 := Zm.mk_eq.1 h1
 have h3 : (2520 * (((a.val - b.val).natAbs : Nat) : Int) + 1) ∣ a.val - b.val := Int.dvd_of_emod_eq_zero (by rw [Int.sub_emod, h2, Int.sub_self, Int.zero_emod])
 have h4 := Int.natAbs_dvd_natAbs.2 h3
 rcases Nat.eq_zero_or_pos (a.val - b.val).natAbs with h0 | h0
 · omega
 · have := Nat.le_of_dvd h0 h4
   omega
theorem K1 (K : Nat) : ∀ i, 1 ≤ i → i < 11 → ∃ u, nc (Zm (2520 * (K : Int) + 1)) i * u = 1 := by
 intro i h1 h2
 obtain ⟨c, hc⟩ : ∃ c : Nat, i * c = 2520 := by
   have : i = 1 ∨ i = 2 ∨ i = 3 ∨ i = 4 ∨ i = 5 ∨ i = 6 ∨ i = 7 ∨ i = 8 ∨ i = 9 ∨ i = 10 := by omega
   refine ⟨2520 / i, ?_⟩
   rcases this with rfl | rfl | rfl | rfl | rfl | rfl | rfl | rfl | rfl | rfl <;> rfl
 refine ⟨Zm.mk _ (-((c : Int) * K)), ?_⟩
 rw [Avi, ← Zm.mk_mul, ← Zm.mk_one, Zm.mk_eq]
 have e : (i : Int) * (-((c : Int) * K)) = 1 + (2520 * (K : Int) + 1) * (-1) := by
   have : (i : Int) * c = 2520 := by
     have h := Int.natCast_mul i c
     rw [hc] at h
     rw [← h]; rfl
   rw [Int.mul_neg, ← Int.mul_assoc, this]; omega
 rw [e, Int.add_mul_emod_self_left]
section
variable {m : Int}
theorem Atf (l : List Int) : (cM m).ps.f (rd 0 l) = rd m l := PS.ext (fun i => by
 rw [RH.ps_c, nX, nX, tJ])
theorem mW (N n : Nat) (f : PS (PS (Zm 0))) (a : PS (Zm 0)) : (cM m).ps.f (cQ N n f a) = cQ N n ((cM m).pp.f f) ((cM m).ps.f a) := PS.ext (fun i => by
 show (cM m).f (((dJ (kN n) (rd 0 (bX n)) N f a n).c (i * n)).c 0) = _
 rw [← RH.pp_cc, Acz, Atf]; rfl)
def wM (a : PS (Zm m)) : PS (Zm 0) := ⟨fun i => Zm.mk 0 (a.c i).val⟩
theorem wB (a : PS (Zm m)) : (cM m).ps.f (wM a) = a := PS.ext (fun i => Ax0 (a.c i))
theorem wO {a : PS (Zm m)} (h : a.c 0 = 0) : (wM a).c 0 = 0 := by
 show Zm.mk 0 (a.c 0).val = 0
 rw [h, Zm.val_zero, Zm.mk_zero]
theorem wE {N n : Nat} {f g : PS (PS (Zm m))} (h : aW N f g) (a : PS (Zm m)) : cQ N n f a = cQ N n g a := PS.ext (fun i => by
 show ((dJ _ _ N f a n).c _).c 0 = ((dJ _ _ N g a n).c _).c 0
 rw [Aiy _ _ N h])
theorem W9 {N : Nat} {f g : PS (PS (Zm m))} (h : aW N f g) (a b : PS (Zm m)) : evT N f a b = evT N g a b := by
 unfold evT
 exact aR (fun p hp => aR (fun q hq => by rw [h p q (by omega)]))
theorem Z7 {N : Nat} {f g : PS (PS (Zm m))} (h : aW N f g) (a : PS (Zm m)) : ∀ k, nmT N f a k = nmT N g a k
 | 0 => rfl
 | k + 1 => by
   show evT N f (nmT N f a k) a = evT N g (nmT N g a k) a
   rw [Z7 h a k, W9 h]
theorem Akb {N n : Nat} (hN : N ≤ 11) (hn : 2 ≤ n ∧ n ≤ 5) {F : PS (PS (Zm 0))} (L : LwN F N) {a b : PS (Zm 0)} (ha : a.c 0 = 0) (hb : b.c 0 = 0) {i : Nat} (hi : i * n < N) :
   (cQ N n F (evT N F a b)).c i = (evT N F (cQ N n F a) (cQ N n F b)).c i := by
 refine P5 (fun K => ?_)
 obtain ⟨l, hl⟩ := Q0 ((cM (2520 * (K : Int) + 1)).law L) (fun i h1 h2 => K1 K i h1 (by omega))
 have h := Alk hn ((cM (2520 * (K : Int) + 1)).law L) hl (a := (cM _).ps.f a) (b := (cM _).ps.f b) (by rw [RH.ps_c, ha, RH.zero]) (by rw [RH.ps_c, hb, RH.zero]) hi
 rw [← RH.evT, ← mW, ← mW, ← mW, ← RH.evT] at h
 exact h
theorem Ato {N n : Nat} (hN : N ≤ 11) (hn : 2 ≤ n ∧ n ≤ 5) {F : PS (PS (Zm 0))} (L : LwN F N) {a a' : PS (Zm 0)} (ha : a.c 0 = 0) (ha' : a'.c 0 = 0) (h : Ag N a' (vs n a)) {i : Nat} (hi : i * n < N) :
   (cQ N n F a').c i = (nmT N F a n).c i := by
 refine P5 (fun K => ?_)
 obtain ⟨l, hl⟩ := Q0 ((cM (2520 * (K : Int) + 1)).law L) (fun i h1 h2 => K1 K i h1 (by omega))
 have h := Avp hn ((cM (2520 * (K : Int) + 1)).law L) hl (a := (cM _).ps.f a) (a' := (cM _).ps.f a') (by rw [RH.ps_c, ha, RH.zero]) (by rw [RH.ps_c, ha', RH.zero]) (fun j hj => by
   rw [RH.ps_c, h j hj, jI (by omega), jI (by omega)]
   split
   · rfl
   · exact RH.zero _) hi
 rw [← RH.nmT, ← mW] at h
 exact h
theorem Axb (hm : 0 < m) {N n : Nat} (hN : N ≤ 11) (hn : 2 ≤ n ∧ n ≤ 5) {f : PS (PS (Zm m))} (L : LwN f N) {a b : PS (Zm m)} (ha : a.c 0 = 0) (hb : b.c 0 = 0) {i : Nat} (hi : i * n < N) :
   (cQ N n f (evT N f a b)).c i = (evT N f (cQ N n f a) (cQ N n f b)).c i := by
 have h2 := L.pos
 obtain ⟨d, rfl⟩ : ∃ d, N = 2 + d := ⟨N - 2, by omega⟩
 obtain ⟨F, LF, hF⟩ := zL hm d hN L
 have h := congrArg (cM m).f (Akb hN hn LF (wO ha) (wO hb) hi)
 rw [← RH.ps_c, ← RH.ps_c, mW, RH.evT, RH.evT, mW, mW, wB, wB] at h
 rw [wE hF, W9 hF, wE hF, wE hF, W9 hF] at h
 exact h
theorem Aqt (hm : 0 < m) {N n : Nat} (hN : N ≤ 11) (hn : 2 ≤ n ∧ n ≤ 5) {f : PS (PS (Zm m))} (L : LwN f N) {a : PS (Zm m)} (ha : a.c 0 = 0) {i : Nat} (hi : i * n < N) :
   (cQ N n f (vs n a)).c i = (nmT N f a n).c i := by
 have h2 := L.pos
 obtain ⟨d, rfl⟩ : ∃ d, N = 2 + d := ⟨N - 2, by omega⟩
 obtain ⟨F, LF, hF⟩ := zL hm d hN L
 have h := congrArg (cM m).f (Ato hN hn LF (wO ha) (rV (by omega) (wO ha)) Ag.rfl hi)
 have e : (cM m).ps.f (vs n (wM a)) = vs n a := PS.ext (fun j => by
   rw [RH.ps_c, jI (by omega), jI (by omega)]
   split
   · rw [← RH.ps_c, wB]
   · exact RH.zero _)
 rw [← RH.ps_c, ← RH.ps_c, mW, RH.nmT, e, wB] at h
 rw [wE hF, Z7 hF] at h
 exact h
end
end PS
end Go.Fg
namespace Go.Fg
set_option linter.unusedVariables false
set_option linter.unusedSimpArgs false
namespace PS
variable {m : Int}
theorem Ac9 (k : Nat) (ρ : PS (Zm m)) {N : Nat} {f f' g g' : PS (PS (Zm m))} (hf : Ag N f f') (hg : Ag N g g') : Ag N (fW k ρ N f g) (fW k ρ N f' g') := fun n hn => by
 unfold fW
 rw [lG, lG, if_neg (by omega), if_neg (by omega)]
 congr 1
 exact aR (fun a ha => by
   split
   · rw [hf a ha, hg (n - a) (by omega)]
   · rfl)
theorem U2 (k : Nat) (ρ : PS (Zm m)) {N : Nat} {a a' : PS (PS (Zm m))} (h : Ag N a a') : ∀ i, Ag N (eC k ρ N a i) (eC k ρ N a' i)
 | 0 => Ag.rfl
 | i + 1 => Ac9 k ρ (U2 k ρ h i) h
theorem Awz (k : Nat) (ρ : PS (Zm m)) {N : Nat} (f : PS (PS (Zm m))) {a a' b b' : PS (PS (Zm m))} (ha : Ag N a a') (hb : Ag N b b') : Ag N (gR k ρ N f a b) (gR k ρ N f a' b') := fun n hn => by
 rw [tU, tU, sm_c, sm_c]
 refine aR (fun p hp => ?_)
 rw [sm_c, sm_c]
 refine aR (fun q hq => ?_)
 rw [C_mul, C_mul, Ac9 k ρ (U2 k ρ ha p) (U2 k ρ hb q) n hn]
theorem Ap8 (k : Nat) (ρ s : PS (Zm m)) {N : Nat} {a a' : PS (Zm m)} (h : Ag N a a') : Ag N (kA k ρ s a) (kA k ρ s a') := fun j hj => by
 show PS.C (a.c j) * _ = PS.C (a'.c j) * _
 rw [h j hj]
theorem Agl (k : Nat) (ρ : PS (Zm m)) {N : Nat} (f : PS (PS (Zm m))) {a a' : PS (Zm m)} (h : Ag N a a') : ∀ i, Ag N (dJ k ρ N f a i) (dJ k ρ N f a' i)
 | 0 => Ag.rfl
 | i + 1 => Awz k ρ f (Agl k ρ f h i) (Ap8 k ρ _ h)
theorem Ajx {N : Nat} (n : Nat) (f : PS (PS (Zm m))) {a a' : PS (Zm m)} (h : Ag N a a') {i : Nat} (hi : i * n < N) : (cQ N n f a).c i = (cQ N n f a').c i := by
 show ((dJ _ _ N f a n).c _).c 0 = ((dJ _ _ N f a' n).c _).c 0
 rw [Agl _ _ f h n (i * n) hi]
theorem Aeb {K N : Nat} (h : K ≤ N) {f : PS (PS (Zm m))} (f0 : (f.c 0).c 0 = 0) {a : PS (Zm m)} (ha : a.c 0 = 0) : ∀ k, Ag K (nmT N f a k) (nmT K f a k) ∧ (nmT N f a k).c 0 = 0 ∧ (nmT K f a k).c 0 = 0
 | 0 => ⟨Ag.rfl, rfl, rfl⟩
 | k + 1 => by
   obtain ⟨h1, h2, h3⟩ := Aeb h f0 ha k
   refine ⟨?_, eQ f0 h2 ha, eQ f0 h3 ha⟩
   show Ag K (evT N f (nmT N f a k) a) (evT K f (nmT K f a k) a)
   exact (yU h f h2 ha).trans (gG (fun _ _ _ => rfl) h1 Ag.rfl)
theorem Ad8 (hm : 0 < m) {N n : Nat} (hN : N ≤ 11) (hn : 2 ≤ n ∧ n ≤ 5) {f : PS (PS (Zm m))} (L : LwN f N) {a : PS (Zm m)} (ha : a.c 0 = 0) : (cQ N n f a).c 0 = 0 := by
 have h2 := L.pos
 obtain ⟨d, rfl⟩ : ∃ d, N = 2 + d := ⟨N - 2, by omega⟩
 obtain ⟨F, LF, hF⟩ := zL hm d hN L
 have h : (cQ (2 + d) n F (wM a)).c 0 = 0 := P5 (fun K => by
   obtain ⟨l, hl⟩ := Q0 ((cM (2520 * (K : Int) + 1)).law LF) (fun i h1 h2 => K1 K i h1 (by omega))
   have h := vH hn ((cM (2520 * (K : Int) + 1)).law LF) hl (a := (cM _).ps.f (wM a)) (by rw [RH.ps_c, wO ha, RH.zero])
   rw [← mW, RH.ps_c] at h
   rw [h, RH.zero])
 have h9 := congrArg (cM m).f h
 rw [← RH.ps_c, mW, wB, wE hF, RH.zero] at h9
 exact h9
theorem Als {n k : Nat} (hn : 1 ≤ n) (hk : 1 ≤ k) (a : PS (Zm m)) : vs n (vs k a) = vs (k * n) a := PS.ext (fun j => by
 have hkn : 1 ≤ k * n := Nat.mul_pos (by omega) (by omega)
 rw [jI hn, jI hk, jI hkn, Nat.div_div_eq_div_mul, Nat.mul_comm n k]
 by_cases h : j % n = 0
 · rw [if_pos h]
   have e : j / n % k = 0 ↔ j % (k * n) = 0 := by
     have h1 := Nat.div_add_mod j n
     rw [h, Nat.add_zero] at h1
     constructor
     · intro h2
       have h3 := Nat.div_add_mod (j / n) k
       rw [h2, Nat.add_zero] at h3
       rw [← h1, ← h3, ← Nat.mul_assoc, Nat.mul_comm n k]
       exact Nat.mul_mod_right _ _
     · intro h2
       obtain ⟨c, hc⟩ := Nat.dvd_of_mod_eq_zero h2
       have : j / n = k * c := by
         rw [hc, Nat.mul_comm k n, Nat.mul_assoc, Nat.mul_div_cancel_left _ (by omega)]
       rw [this]; exact Nat.mul_mod_right _ _
   by_cases h2 : j / n % k = 0
   · rw [if_pos h2, if_pos (e.1 h2)]
   · rw [if_neg h2, if_neg (fun h3 => h2 (e.2 h3))]
 · rw [if_neg h, if_neg (fun h3 => h ?_)]
   obtain ⟨c, hc⟩ := Nat.dvd_of_mod_eq_zero h3
   rw [hc, Nat.mul_comm k n, Nat.mul_assoc]; exact Nat.mul_mod_right _ _)
end PS
end Go.Fg
