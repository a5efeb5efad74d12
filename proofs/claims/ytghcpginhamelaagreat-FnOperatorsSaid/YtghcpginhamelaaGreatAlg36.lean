import Derived.Test.YtghcpginhamelaaGreatAlg35
import Derived.Test.YtghcpginhamelaaGreatAlg10
namespace Go.Fg
set_option linter.unusedVariables false
set_option linter.unusedSimpArgs false
set_option linter.unusedSectionVars false
set_option maxHeartbeats 4000000
open CR PS
section
variable {m : Int}
theorem U9 (n : Nat) : (kN n = 1 ∧ bR n = [-1]) ∨ (kN n = 2 ∧ bR n = [-1, -1]) ∨ (kN n = 2 ∧ bR n = [-1, 0]) ∨ (kN n = 4 ∧ bR n = [-1, -1, -1, -1]) := by
 unfold kN bR
 split <;> simp
theorem yG {n : Nat} (a b : PS (Zm m)) {j : Nat} (hj : j < kN n) : (dC (kN n) (rd m (bR n)) a b).c j = (dC (kN n) (rd m (bR n)) b a).c j := by
 have hA : ∀ (a : PS (Zm m)) i, ∃ x, a.c i = Zm.mk m x := fun a i => ⟨_, (Zm.mk_val _).symm⟩
 obtain ⟨x0, e0⟩ := hA a 0
 obtain ⟨x1, e1⟩ := hA a 1
 obtain ⟨x2, e2⟩ := hA a 2
 obtain ⟨x3, e3⟩ := hA a 3
 obtain ⟨y0, g0⟩ := hA b 0
 obtain ⟨y1, g1⟩ := hA b 1
 obtain ⟨y2, g2⟩ := hA b 2
 obtain ⟨y3, g3⟩ := hA b 3
 rcases U9 n with ⟨h1, h2⟩ | ⟨h1, h2⟩ | ⟨h1, h2⟩ | ⟨h1, h2⟩ <;> rw [h1, h2] <;> rw [h1] at hj
 · obtain rfl : j = 0 := by omega
   simp [eM, bP, dI, sm, rd, e0, g0]
   simp only [← Zm.mk_mul, ← Zm.mk_add, ← Zm.mk_sub, ← Zm.mk_neg, ← Zm.mk_zero]
   exact congrArg _ (by grind)
 · rcases (show j = 0 ∨ j = 1 by omega) with rfl | rfl
   all_goals
     simp [eM, bP, dI, sm, rd, e0, g0, e1, g1]
     simp only [← Zm.mk_mul, ← Zm.mk_add, ← Zm.mk_sub, ← Zm.mk_neg, ← Zm.mk_zero]
     exact congrArg _ (by grind)
 · rcases (show j = 0 ∨ j = 1 by omega) with rfl | rfl
   all_goals
     simp [eM, bP, dI, sm, rd, e0, g0, e1, g1]
     simp only [← Zm.mk_mul, ← Zm.mk_add, ← Zm.mk_sub, ← Zm.mk_neg, ← Zm.mk_zero]
     exact congrArg _ (by grind)
 · rcases (show j = 0 ∨ j = 1 ∨ j = 2 ∨ j = 3 by omega) with rfl | rfl | rfl | rfl
   all_goals
     simp [eM, bP, dI, sm, rd, e0, g0, e1, g1, e2, g2, e3, g3]
     simp only [← Zm.mk_mul, ← Zm.mk_add, ← Zm.mk_sub, ← Zm.mk_neg, ← Zm.mk_zero]
     exact congrArg _ (by grind)
theorem Aps {n : Nat} (a b c : PS (Zm m)) {j : Nat} (hj : j < kN n) : (dC (kN n) (rd m (bR n)) (dC (kN n) (rd m (bR n)) a b) c).c j = (dC (kN n) (rd m (bR n)) a (dC (kN n) (rd m (bR n)) b c)).c j := by
 have hA : ∀ (a : PS (Zm m)) i, ∃ x, a.c i = Zm.mk m x := fun a i => ⟨_, (Zm.mk_val _).symm⟩
 obtain ⟨x0, e0⟩ := hA a 0
 obtain ⟨x1, e1⟩ := hA a 1
 obtain ⟨x2, e2⟩ := hA a 2
 obtain ⟨x3, e3⟩ := hA a 3
 obtain ⟨y0, g0⟩ := hA b 0
 obtain ⟨y1, g1⟩ := hA b 1
 obtain ⟨y2, g2⟩ := hA b 2
 obtain ⟨y3, g3⟩ := hA b 3
 obtain ⟨z0, f0⟩ := hA c 0
 obtain ⟨z1, f1⟩ := hA c 1
 obtain ⟨z2, f2⟩ := hA c 2
 obtain ⟨z3, f3⟩ := hA c 3
 rcases U9 n with ⟨h1, h2⟩ | ⟨h1, h2⟩ | ⟨h1, h2⟩ | ⟨h1, h2⟩ <;> rw [h1, h2] <;> rw [h1] at hj
 · obtain rfl : j = 0 := by omega
   simp [eM, bP, dI, sm, rd, e0, g0, f0]
   simp only [← Zm.mk_mul, ← Zm.mk_add, ← Zm.mk_sub, ← Zm.mk_neg, ← Zm.mk_zero]
   exact congrArg _ (by grind)
 · rcases (show j = 0 ∨ j = 1 by omega) with rfl | rfl
   all_goals
     simp [eM, bP, dI, sm, rd, e0, g0, e1, g1, f0, f1]
     simp only [← Zm.mk_mul, ← Zm.mk_add, ← Zm.mk_sub, ← Zm.mk_neg, ← Zm.mk_zero]
     exact congrArg _ (by grind)
 · rcases (show j = 0 ∨ j = 1 by omega) with rfl | rfl
   all_goals
     simp [eM, bP, dI, sm, rd, e0, g0, e1, g1, f0, f1]
     simp only [← Zm.mk_mul, ← Zm.mk_add, ← Zm.mk_sub, ← Zm.mk_neg, ← Zm.mk_zero]
     exact congrArg _ (by grind)
 · rcases (show j = 0 ∨ j = 1 ∨ j = 2 ∨ j = 3 by omega) with rfl | rfl | rfl | rfl
   all_goals
     simp [eM, bP, dI, sm, rd, e0, g0, e1, g1, e2, g2, e3, g3, f0, f1, f2, f3]
     simp only [← Zm.mk_mul, ← Zm.mk_add, ← Zm.mk_sub, ← Zm.mk_neg, ← Zm.mk_zero]
     exact congrArg _ (by grind)
def Rw (m : Int) (n : Nat) : Type := {a : PS (Zm m) // ∀ i, kN n ≤ i → a.c i = 0}
namespace Rw
variable {n : Nat}
def cut (n : Nat) (a : PS (Zm m)) : Rw m n := ⟨⟨fun i => if i < kN n then a.c i else 0⟩, fun i hi => if_neg (by omega)⟩
theorem cut_c (a : PS (Zm m)) {i : Nat} (hi : i < kN n) : (cut n a).1.c i = a.c i := if_pos hi
theorem ext {a b : Rw m n} (h : Ag (kN n) a.1 b.1) : a = b := Subtype.ext (PS.ext (fun i => by
 by_cases hi : i < kN n
 · exact h i hi
 · rw [a.2 i (by omega), b.2 i (by omega)]))
theorem fB (a : PS (Zm m)) : Ag (kN n) (cut n a).1 a := fun i hi => cut_c a hi
theorem iV {a b : PS (Zm m)} (h : Ag (kN n) a b) : cut n a = cut n b := ext (((fB a).trans h).trans (fB b).symm)
theorem Aiw {a b : PS (Zm m)} : cut n a = cut n b ↔ Ag (kN n) a b := ⟨fun h => ((fB a).symm.trans (Ag.of_eq (congrArg Subtype.val h))).trans (fB b), iV⟩
theorem Ade (n : Nat) : 0 < kN n := by rcases U9 n with ⟨h, _⟩ | ⟨h, _⟩ | ⟨h, _⟩ | ⟨h, _⟩ <;> omega
def mul (a b : Rw m n) : Rw m n := cut n (dC (kN n) (rd m (bR n)) a.1 b.1)
instance : CR (Rw m n) where
 add a b := cut n (a.1 + b.1)
 mul := mul
 neg a := cut n (-a.1)
 zero := cut n 0
 one := cut n 1
 add_assoc a b c := iV (((fB _).add Ag.rfl).trans ((Ag.of_eq (CR.add_assoc _ _ _)).trans (Ag.rfl.add (fB _).symm)))
 add_comm a b := iV (Ag.of_eq (CR.add_comm _ _))
 zero_add a := ext ((fB _).trans (((fB _).add Ag.rfl).trans (Ag.of_eq (CR.zero_add _))))
 neg_add a := iV (((fB _).add Ag.rfl).trans (Ag.of_eq (CR.neg_add _)))
 mul_assoc a b c := iV ((tZ (fB _) Ag.rfl).trans (Ag.trans (fun j hj => Aps _ _ _ hj) (tZ Ag.rfl (fB _)).symm))
 mul_comm a b := iV (fun j hj => yG _ _ hj)
 one_mul a := ext ((fB _).trans ((tZ (fB _) Ag.rfl).trans (fun j hj => by
   rw [eM, cE 0 (Ade n) (fun i hi hne => by rw [one_c, if_neg hne, Go.Fg.zero_mul]), one_c, if_pos rfl, CR.one_mul]; rfl)))
 mul_add a b c := iV ((tZ Ag.rfl (fB _)).trans (Ag.trans (fun j hj => by
   rw [add_c, yG _ _ hj, yG _ b.1 hj, yG _ c.1 hj, eM, eM, eM, ← eU]
   exact aR (fun i _ => by rw [add_c, Go.Fg.add_mul])) ((fB _).add (fB _)).symm))
theorem xU (a b : PS (Zm m)) : cut n (a + b) = cut n a + cut n b := iV ((fB a).add (fB b)).symm
theorem wK (a b : PS (Zm m)) : cut n (dC (kN n) (rd m (bR n)) a b) = cut n a * cut n b := iV (tZ (fB a) (fB b)).symm
theorem Aac : cut n (0 : PS (Zm m)) = 0 := rfl
theorem X8 : cut n (1 : PS (Zm m)) = 1 := rfl
def con (m : Int) (n : Nat) : RH (Zm m) (Rw m n) where
 f x := cut n (C x)
 add a b := by rw [← xU, kL]
 mul a b := by
   rw [← wK]
   refine iV (fun j hj => ?_)
   rw [J7 _ _ _ _ hj, iC, CR.mul_comm]
 one := rfl
theorem Y2 (x : Zm m) (a : PS (Zm m)) : cut n (C x * a) = (con m n).f x * cut n a := by
 show _ = cut n (C x) * cut n a
 rw [CR.mul_comm (cut n (C x)), ← wK]
 exact iV (fun j hj => (J7 _ _ _ _ hj).symm)
theorem con_inj {x : Zm m} {a : PS (Zm m)} (h : cut n a = (con m n).f x) : a.c 0 = x := by
 have := Aiw.1 h 0 (Ade n)
 rw [this, cO, if_pos rfl]
def root (m : Int) (n : Nat) : Rw m n := cut n (cZ (kN n) (rd m (bR n)) 1)
theorem Anz (a : PS (Zm m)) : cut n (cZ (kN n) (rd m (bR n)) a) = root m n * cut n a := by
 unfold root
 rw [CR.mul_comm, ← wK]
 exact iV (fun j hj => (Adb _ _ _ hj).symm)
theorem Y1 (a : PS (Zm m)) : ∀ i, cut n (bP (kN n) (rd m (bR n)) i a) = pw (root m n) i * cut n a
 | 0 => (CR.one_mul _).symm
 | i + 1 => by
   show cut n (cZ _ _ (bP _ _ i a)) = _
   rw [Anz, Y1 a i, bX, ← CR.mul_assoc, CR.mul_comm (root m n)]
theorem K5 (i : Nat) : pw (root m n) i = cut n (bP (kN n) (rd m (bR n)) i 1) := by
 rw [Y1, X8, Go.Fg.mul_one]
end Rw
end
end Go.Fg
namespace Go.Fg
set_option linter.unusedVariables false
set_option linter.unusedSimpArgs false
set_option linter.unusedSectionVars false
set_option maxHeartbeats 4000000
open CR PS
namespace PS
section
variable {R : Type} [CR R]
theorem Apy {N : Nat} {a b : PS R} (ha : a.c 0 = 0) (hb : b.c 0 = 0) {g h : PS (PS R)} (H : ∀ i j, i + j < N → (g.c i).c j = (h.c i).c j) : Ag N (ev N a b g) (ev N a b h) :=
 (kC g ha hb).symm.trans ((fW H Ag.rfl Ag.rfl).trans (kC h ha hb))
theorem Auy {N : Nat} (hN : 1 ≤ N) (l : PS R) (f : PS (PS R)) {a b : PS R} (ha : a.c 0 = 0) (hb : b.c 0 = 0) :
   Ag N (ev N a b (comp2N l f 0 N)) (compN l (ev N a b f) 0 N) := by
 unfold comp2N compN
 rw [Ae5]
 refine Ag.sm (fun i _ => ?_)
 rw [Ag6 hN]
 exact Ag.rfl.mul (B7 hN f ha hb i)
theorem Aja {N : Nat} (hN : 1 ≤ N) (l : PS R) {f : PS (PS R)} (f0 : (f.c 0).c 0 = 0) {a b : PS R} (ha : a.c 0 = 0) (hb : b.c 0 = 0) :
   Ag N (comp l (evT N f a b)) (ev N a b (comp2N l f 0 N)) := by
 refine Ag.trans ?_ (Auy hN l f ha hb).symm
 refine (jT (eB f0 ha hb) N).symm.trans ?_
 exact G4 (fun _ _ _ => rfl) (kC f ha hb)
theorem Ajz {N : Nat} (hN : 1 ≤ N) {l : PS R} {f : PS (PS R)} (f0 : (f.c 0).c 0 = 0) (h : ∀ i j, i + j < N → ((comp2N l f 0 N).c i).c j = ((axX l + axY l).c i).c j) {a b : PS R} (ha : a.c 0 = 0) (hb : b.c 0 = 0) :
   Ag N (comp l (evT N f a b)) (comp l a + comp l b) := by
 refine (Aja hN l f0 ha hb).trans ((Apy ha hb h).trans ?_)
 rw [J2]
 exact (Ads hN ha b l).add (Aao hN a hb l)
def gB (z : R) : RH (PS R) (PS R) where
 f a := ⟨fun j => a.c j * Go.Fg.pw z j⟩
 add a b := PS.ext (fun j => Go.Fg.add_mul _ _ _)
 mul a b := PS.ext (fun j => by
   show (a * b).c j * _ = _
   rw [bS, bS, fS]
   refine aR (fun i hi => ?_)
   show a.c i * b.c (j - i) * Go.Fg.pw z j = a.c i * Go.Fg.pw z i * (b.c (j - i) * Go.Fg.pw z (j - i))
   rw [show Go.Fg.pw z j = Go.Fg.pw z i * Go.Fg.pw z (j - i) by rw [← rJ, show i + (j - i) = j by omega]]
   ac_rfl)
 one := PS.ext (fun j => by
   show (1 : PS R).c j * _ = _
   rw [one_c]
   split
   · rename_i h; rw [h]; exact CR.one_mul _
   · exact Go.Fg.zero_mul _)
theorem U6 (z : R) (a : PS R) (j : Nat) : ((gB z).f a).c j = a.c j * Go.Fg.pw z j := rfl
theorem Aud (z r : R) : (gB z).f (C r) = C r := PS.ext (fun j => by
 rw [U6, cO]
 split
 · rename_i h; rw [h]; exact Go.Fg.mul_one _
 · exact Go.Fg.zero_mul _)
theorem Avo (z : R) (l a : PS R) (k n : Nat) : (gB z).f (compN l a k n) = compN l ((gB z).f a) k n := by
 unfold compN
 rw [(gB z).sm]
 exact aR (fun i _ => by rw [(gB z).mul, Aud, (gB z).pw])
theorem Avr (z : R) (l a : PS R) : (gB z).f (comp l a) = comp l ((gB z).f a) := PS.ext (fun n => by
 show (compN l a 0 (n + 1)).c n * _ = (compN l ((gB z).f a) 0 (n + 1)).c n
 rw [← Avo]; rfl)
theorem Aby (z : R) {a : PS R} (h : a.c 0 = 0) : ((gB z).f a).c 0 = 0 := by rw [U6, h, Go.Fg.zero_mul]
def roots (N : Nat) (f : PS (PS R)) (z : R) (a : PS R) : Nat → PS R
 | 0 => 0
 | i + 1 => evT N f (roots N f z a i) ((gB (Go.Fg.pw z i)).f a)
theorem I1 {N : Nat} {f : PS (PS R)} (f0 : (f.c 0).c 0 = 0) (z : R) {a : PS R} (ha : a.c 0 = 0) : ∀ i, (roots N f z a i).c 0 = 0
 | 0 => rfl
 | i + 1 => eB f0 (I1 f0 z ha i) (Aby _ ha)
theorem Av1 {l : PS R} (l0 : l.c 0 = 0) : comp l 0 = 0 := PS.ext (fun i => by
 show (compN l 0 0 (i + 1)).c i = 0
 unfold compN
 rw [cE 0 (by omega) (fun j _ hne => by rw [wZ hne, Go.Fg.mul_zero]), l0, C_zero, Go.Fg.zero_mul]; rfl)
theorem Adn {N : Nat} (hN : 1 ≤ N) {l : PS R} (l0 : l.c 0 = 0) {f : PS (PS R)} (f0 : (f.c 0).c 0 = 0) (h : ∀ i j, i + j < N → ((comp2N l f 0 N).c i).c j = ((axX l + axY l).c i).c j) (z : R) {a : PS R} (ha : a.c 0 = 0) :
   ∀ i, Ag N (comp l (roots N f z a i)) (Go.Fg.sm i fun j => (gB (Go.Fg.pw z j)).f (comp l a))
 | 0 => Ag.of_eq (Av1 l0)
 | i + 1 => by
   refine (Ajz hN f0 h (I1 f0 z ha i) (Aby _ ha)).trans ?_
   rw [bF, Avr]
   exact (Adn hN l0 f0 h z ha i).add Ag.rfl
theorem An4 {z : R} {n : Nat} (h : Go.Fg.pw z n = 1) (i : Nat) : Go.Fg.pw z i = Go.Fg.pw z (i % n) := by
 have e := Nat.div_add_mod i n
 have : Go.Fg.pw z (n * (i / n) + i % n) = Go.Fg.pw z (i % n) := by
   rw [rJ, ← J1, h, vI, CR.one_mul]
 rwa [e] at this
def K4 (z : R) (n : Nat) : Prop := ∀ k, Go.Fg.sm n (fun i => Go.Fg.pw z (i * k)) = if k % n = 0 then nc R n else 0
def trn (n : Nat) (g : PS R) : PS R := ⟨fun j => if j % n = 0 then nc R n * g.c j else 0⟩
theorem Art {z : R} {n : Nat} (h : K4 z n) (g : PS R) : (Go.Fg.sm n fun j => (gB (Go.Fg.pw z j)).f g) = trn n g := PS.ext (fun k => by
 rw [sm_c]
 have e : ∀ i, i < n → ((gB (Go.Fg.pw z i)).f g).c k = g.c k * Go.Fg.pw z (i * k) := fun i _ => by rw [U6, J1]
 rw [aR e, ← fI, h k]
 show _ = if k % n = 0 then nc R n * g.c k else 0
 split
 · exact CR.mul_comm _ _
 · exact Go.Fg.mul_zero _)
theorem Aoi (n : Nat) : nc R n = Go.Fg.sm n fun _ => 1 := by
 induction n with
 | zero => rfl
 | succ n ih => rw [bF, ← ih]; rfl
theorem Agk (z : R) : ∀ n, 1 + z * Go.Fg.sm n (fun i => Go.Fg.pw z i) = Go.Fg.sm n (fun i => Go.Fg.pw z i) + Go.Fg.pw z n
 | 0 => by rw [fD, Go.Fg.mul_zero, CR.zero_add, Go.Fg.add_zero]; rfl
 | n + 1 => by
   rw [bF, CR.mul_add, ← CR.add_assoc, Agk z n, CR.add_assoc, CR.add_assoc, CR.mul_comm z]
   rfl
theorem Av0 {z : R} {n : Nat} (hn : 2 ≤ n ∧ n ≤ 5) (h2 : Go.Fg.sm n (fun i => Go.Fg.pw z i) = 0) (h3 : n = 4 → 1 + z * z = 0) : K4 z n := by
 have h1 : Go.Fg.pw z n = 1 := by
   have := Agk z n
   rw [h2, Go.Fg.mul_zero, Go.Fg.add_zero, CR.zero_add] at this
   exact this.symm
 intro k
 have e : ∀ i, Go.Fg.pw z (i * k) = Go.Fg.pw z (i * (k % n) % n) := fun i => by rw [An4 h1, Nat.mul_mod, Nat.mul_mod i (k % n), Nat.mod_mod]
 rw [aR (fun i _ => e i)]
 have hr : k % n < n := Nat.mod_lt _ (by omega)
 generalize k % n = r at *
 by_cases h0 : r = 0
 · subst h0
   rw [if_pos rfl, Aoi]
   exact aR (fun i _ => by rw [Nat.mul_zero, Nat.zero_mod]; rfl)
 · rw [if_neg h0]
   rcases (show n = 2 ∨ n = 3 ∨ n = 4 ∨ n = 5 by omega) with rfl | rfl | rfl | rfl
   · obtain rfl : r = 1 := by omega
     exact h2
   · rcases (show r = 1 ∨ r = 2 by omega) with rfl | rfl
     · exact h2
     · rw [← h2]
       simp only [bF, fD, CR.zero_add, show 0 * 2 % 3 = 0 from rfl, show 1 * 2 % 3 = 2 from rfl, show 2 * 2 % 3 = 1 from rfl]
       ac_rfl
   · have h4 := h3 rfl
     rcases (show r = 1 ∨ r = 2 ∨ r = 3 by omega) with rfl | rfl | rfl
     · exact h2
     · simp only [bF, fD, CR.zero_add, show 0 * 2 % 4 = 0 from rfl, show 1 * 2 % 4 = 2 from rfl, show 2 * 2 % 4 = 0 from rfl, show 3 * 2 % 4 = 2 from rfl]
       have e5 : Go.Fg.pw z 2 = z * z := by rw [bX, pw_one]
       rw [pw_zero, e5, h4, CR.zero_add]
       exact h4
     · rw [← h2]
       simp only [bF, fD, CR.zero_add, show 0 * 3 % 4 = 0 from rfl, show 1 * 3 % 4 = 3 from rfl, show 2 * 3 % 4 = 2 from rfl, show 3 * 3 % 4 = 1 from rfl]
       ac_rfl
   · rcases (show r = 1 ∨ r = 2 ∨ r = 3 ∨ r = 4 by omega) with rfl | rfl | rfl | rfl
     · exact h2
     · rw [← h2]
       simp only [bF, fD, CR.zero_add, show 0 * 2 % 5 = 0 from rfl, show 1 * 2 % 5 = 2 from rfl, show 2 * 2 % 5 = 4 from rfl, show 3 * 2 % 5 = 1 from rfl, show 4 * 2 % 5 = 3 from rfl]
       ac_rfl
     · rw [← h2]
       simp only [bF, fD, CR.zero_add, show 0 * 3 % 5 = 0 from rfl, show 1 * 3 % 5 = 3 from rfl, show 2 * 3 % 5 = 1 from rfl, show 3 * 3 % 5 = 4 from rfl, show 4 * 3 % 5 = 2 from rfl]
       ac_rfl
     · rw [← h2]
       simp only [bF, fD, CR.zero_add, show 0 * 4 % 5 = 0 from rfl, show 1 * 4 % 5 = 4 from rfl, show 2 * 4 % 5 = 3 from rfl, show 3 * 4 % 5 = 2 from rfl, show 4 * 4 % 5 = 1 from rfl]
       ac_rfl
end
end PS
section
variable {m : Int}
namespace Rw
theorem root_prim {n : Nat} (hn : 2 ≤ n ∧ n ≤ 5) : K4 (root m n) n := by
 have e1 : ∀ k, Go.Fg.sm k (fun i => Go.Fg.pw (root m n) i) = cut n (Go.Fg.sm k fun i => bP (kN n) (rd m (bR n)) i 1) := fun k => by
   induction k with
   | zero => rfl
   | succ k ih => rw [bF, bF, ih, K5, xU]
 refine Av0 hn ?_ (fun h4 => ?_)
 · rw [e1, ← Aac]
   refine iV (fun j hj => ?_)
   rcases (show n = 2 ∨ n = 3 ∨ n = 4 ∨ n = 5 by omega) with rfl | rfl | rfl | rfl
   · obtain rfl : j = 0 := by simp only [kN] at hj; omega
     simp [kN, bR, bP, dI, rd, one_c, sm, add_c, fQ]
     simp only [← Zm.mk_one, ← Zm.mk_mul, ← Zm.mk_add, ← Zm.mk_sub, ← Zm.mk_neg, ← Zm.mk_zero]
     exact congrArg _ (by grind)
   · rcases (show j = 0 ∨ j = 1 by simp only [kN] at hj; omega) with rfl | rfl
     all_goals
       simp [kN, bR, bP, dI, rd, one_c, sm, add_c, fQ]
       simp only [← Zm.mk_one, ← Zm.mk_mul, ← Zm.mk_add, ← Zm.mk_sub, ← Zm.mk_neg, ← Zm.mk_zero]
       exact congrArg _ (by grind)
   · rcases (show j = 0 ∨ j = 1 by simp only [kN] at hj; omega) with rfl | rfl
     all_goals
       simp [kN, bR, bP, dI, rd, one_c, sm, add_c, fQ]
       simp only [← Zm.mk_one, ← Zm.mk_mul, ← Zm.mk_add, ← Zm.mk_sub, ← Zm.mk_neg, ← Zm.mk_zero]
       exact congrArg _ (by grind)
   · rcases (show j = 0 ∨ j = 1 ∨ j = 2 ∨ j = 3 by simp only [kN] at hj; omega) with rfl | rfl | rfl | rfl
     all_goals
       simp [kN, bR, bP, dI, rd, one_c, sm, add_c, fQ]
       simp only [← Zm.mk_one, ← Zm.mk_mul, ← Zm.mk_add, ← Zm.mk_sub, ← Zm.mk_neg, ← Zm.mk_zero]
       exact congrArg _ (by grind)
 · subst h4
   have e2 : root m 4 * root m 4 = pw (root m 4) 2 := by rw [bX, pw_one]
   rw [e2, K5, ← X8, ← xU, ← Aac]
   refine iV (fun j hj => ?_)
   rcases (show j = 0 ∨ j = 1 by simp only [kN] at hj; omega) with rfl | rfl
   all_goals
     simp [kN, bR, bP, dI, rd, one_c, sm, add_c, fQ]
     simp only [← Zm.mk_one, ← Zm.mk_mul, ← Zm.mk_add, ← Zm.mk_sub, ← Zm.mk_neg, ← Zm.mk_zero]
     exact congrArg _ (by grind)
def cutS (n : Nat) (f : PS (PS (Zm m))) : PS (Rw m n) := ⟨fun i => cut n (f.c i)⟩
theorem P8 (n : Nat) (f : PS (PS (Zm m))) (i : Nat) : (cutS n f).c i = cut n (f.c i) := rfl
theorem Adz {n : Nat} (k : Nat) (u : Nat → PS (Zm m)) : cut n (Go.Fg.sm k u) = Go.Fg.sm k fun i => cut n (u i) := by
 induction k with
 | zero => rfl
 | succ k ih => rw [bF, bF, xU, ih]
theorem Ae8 {n N : Nat} (f g : PS (PS (Zm m))) : Ag N (cutS n (fJ (kN n) (rd m (bR n)) N f g)) (cutS n f * cutS n g) := fun i hi => by
 rw [P8, bS]
 unfold fJ
 rw [lO, if_neg (by omega), Go.Fg.add_zero, Adz, mL (n := i + 1) (by omega) (fun a h1 _ => by rw [if_neg (by omega)]; rfl)]
 exact aR (fun a ha => by rw [if_pos (by omega), wK]; rfl)
theorem V4 {n N : Nat} (a : PS (PS (Zm m))) : ∀ i, Ag N (cutS n (dV (kN n) (rd m (bR n)) N a i)) (pw (cutS n a) i)
 | 0 => Ag.of_eq (PS.ext (fun i => by
   show cut n ((1 : PS (PS (Zm m))).c i) = (1 : PS (Rw m n)).c i
   rw [one_c, one_c]
   split <;> rfl))
 | i + 1 => (Ae8 _ _).trans ((V4 a i).mul Ag.rfl)
theorem Ah0 {n : Nat} (k : Nat) (u : Nat → PS (PS (Zm m))) : cutS n (Go.Fg.sm k u) = Go.Fg.sm k fun i => cutS n (u i) := PS.ext (fun j => by
 rw [P8, sm_c, sm_c, Adz]; rfl)
theorem Apl {n N : Nat} (f a b : PS (PS (Zm m))) : Ag N (cutS n (gE (kN n) (rd m (bR n)) N f a b)) (evT N ((con m n).pp.f f) (cutS n a) (cutS n b)) := by
 have e : gE (kN n) (rd m (bR n)) N f a b = sm N (fun i => sm (N - i) fun j => PS.C (PS.C ((f.c i).c j)) * fJ (kN n) (rd m (bR n)) N (dV (kN n) (rd m (bR n)) N a i) (dV (kN n) (rd m (bR n)) N b j)) := by
   unfold gE dP
   exact Go.Fg.add_zero _
 rw [e, Ah0]
 unfold evT
 refine Ag.sm (fun i _ => ?_)
 rw [Ah0]
 refine Ag.sm (fun j _ => ?_)
 have e2 : ∀ (x : Zm m) (g : PS (PS (Zm m))), cutS n (PS.C (PS.C x) * g) = C ((con m n).f x) * cutS n g := fun x g => PS.ext (fun i => by
   rw [P8, C_mul, C_mul, Y2]; rfl)
 rw [e2]
 exact Ag.rfl.mul ((Ae8 _ _).trans ((V4 a i).mul (V4 b j)))
theorem Ahh {n : Nat} (s : PS (Zm m)) : ∀ j, cut n (iD (kN n) (rd m (bR n)) s j) = pw (cut n s) j
 | 0 => rfl
 | j + 1 => by
   show cut n (dC _ _ (iD _ _ s j) s) = _
   rw [wK, Ahh s j, bX]
theorem Ats {n : Nat} (i : Nat) (a : PS (Zm m)) : cutS n (jN (kN n) (rd m (bR n)) (bP (kN n) (rd m (bR n)) i 1) a) = (gB (pw (root m n) i)).f ((con m n).ps.f a) := PS.ext (fun j => by
 show cut n (C (a.c j) * iD _ _ _ j) = (con m n).f (a.c j) * pw (pw (root m n) i) j
 rw [Y2, Ahh, K5])
theorem cutS_fr {n N : Nat} (f : PS (PS (Zm m))) (a : PS (Zm m)) : ∀ i, Ag N (cutS n (dF (kN n) (rd m (bR n)) N f a i)) (roots N ((con m n).pp.f f) (root m n) ((con m n).ps.f a) i)
 | 0 => Ag.of_eq (PS.ext (fun j => rfl))
 | i + 1 => (Apl _ _ _).trans (fW (fun _ _ _ => rfl) (cutS_fr f a i) (Ag.of_eq (Ats i a)))
end Rw
end
end Go.Fg
namespace Go.Fg
set_option linter.unusedVariables false
set_option linter.unusedSimpArgs false
set_option linter.unusedSectionVars false
set_option maxHeartbeats 4000000
open CR PS
namespace RH
variable {R S : Type} [CR R] [CR S] (φ : RH R S)
theorem nc : ∀ k, φ.f (Go.Fg.nc R k) = Go.Fg.nc S k
 | 0 => φ.zero
 | k + 1 => by show φ.f (Go.Fg.nc R k + 1) = Go.Fg.nc S k + 1; rw [φ.add, nc k, φ.one]
theorem compN (a b : PS R) (k n : Nat) : φ.ps.f (Go.Fg.PS.compN a b k n) = Go.Fg.PS.compN (φ.ps.f a) (φ.ps.f b) k n := by
 unfold Go.Fg.PS.compN
 rw [φ.ps.sm]
 exact aR (fun i _ => by rw [φ.ps.mul, φ.ps.pw, φ.ps_C]; rfl)
theorem comp (a b : PS R) : φ.ps.f (Go.Fg.PS.comp a b) = Go.Fg.PS.comp (φ.ps.f a) (φ.ps.f b) := PS.ext (fun n => by
 show φ.f ((Go.Fg.PS.compN a b 0 (n + 1)).c n) = (Go.Fg.PS.compN (φ.ps.f a) (φ.ps.f b) 0 (n + 1)).c n
 rw [← φ.compN]; rfl)
theorem trn (n : Nat) (g : PS R) : φ.ps.f (Go.Fg.PS.trn n g) = Go.Fg.PS.trn n (φ.ps.f g) := PS.ext (fun j => by
 show φ.f (if j % n = 0 then Go.Fg.nc R n * g.c j else 0) = if j % n = 0 then Go.Fg.nc S n * φ.f (g.c j) else 0
 split
 · rw [φ.mul, φ.nc]
 · exact φ.zero)
end RH
namespace PS
section
variable {R : Type} [CR R]
def vs (n : Nat) (b : PS R) : PS R := comp b (mono n 1)
theorem Aa1 {n : Nat} (hn : 1 ≤ n) (r : R) : (mono n r).c 0 = 0 := by rw [bO, if_neg (by omega)]
theorem iK {n : Nat} (hn : 1 ≤ n) (b : PS R) (j : Nat) : (vs n b).c j = if j % n = 0 then b.c (j / n) else 0 := by
 show (compN b (mono n 1) 0 (j + 1)).c j = _
 unfold compN
 rw [sm_c]
 have e : ∀ i, (C (b.c (0 + i)) * Go.Fg.pw (mono n (1 : R)) i).c j = if j = i * n then b.c i else 0 := fun i => by
   rw [C_mul, E0, bO, vI, Nat.zero_add]
   split
   · exact Go.Fg.mul_one _
   · exact Go.Fg.mul_zero _
 rw [aR (fun i _ => e i)]
 have hd := Nat.div_add_mod j n
 have hle := Nat.div_le_self j n
 by_cases h : j % n = 0
 · rw [if_pos h, cE (j / n) (by omega) (fun i _ hne => if_neg (fun e2 => hne (by rw [e2, Nat.mul_div_cancel _ (by omega)])))]
   rw [if_pos (by rw [Nat.mul_comm]; omega)]
 · rw [if_neg h]
   exact cH (fun i _ => if_neg (fun e2 => h (by rw [e2]; exact Nat.mul_mod_left _ _)))
theorem B8 {n : Nat} (hn : 1 ≤ n) (b : PS R) (i : Nat) : (vs n b).c (i * n) = b.c i := by
 rw [iK hn, if_pos (Nat.mul_mod_left _ _), Nat.mul_div_cancel _ (by omega)]
theorem Y4 {n : Nat} (hn : 1 ≤ n) (l : PS R) {b : PS R} (hb : b.c 0 = 0) : comp l (vs n b) = vs n (comp l b) := (uF l hb (Aa1 hn 1)).symm
theorem pZ {n : Nat} (hn : 1 ≤ n) {b : PS R} (hb : b.c 0 = 0) : (vs n b).c 0 = 0 := by rw [iK hn, Nat.zero_mod, if_pos rfl, Nat.zero_div, hb]
theorem Aip {n : Nat} (hn : 1 ≤ n) (g : PS R) : trn n (vs n g) = vs n (C (nc R n) * g) := PS.ext (fun j => by
 show (if j % n = 0 then nc R n * (vs n g).c j else 0) = _
 rw [iK hn, iK hn, C_mul]
 split <;> rfl)
def eK (n : Nat) (g : PS R) : Prop := ∀ j, j % n ≠ 0 → g.c j = 0
theorem eK.mul {n : Nat} {g h : PS R} (hg : eK n g) (hh : eK n h) : eK n (g * h) := fun j hj => by
 rw [bS]
 refine cH (fun i hi => ?_)
 by_cases h1 : i % n = 0
 · rw [hh (j - i) (fun h2 => hj (by
     have e : j = i + (j - i) := by omega
     rw [e, Nat.add_mod, h1, h2]; rfl)), Go.Fg.mul_zero]
 · rw [hg i h1, Go.Fg.zero_mul]
theorem eK.C (n : Nat) (r : R) : eK n (C r) := fun j hj => by
 rw [cO, if_neg (fun e => hj (by rw [e]; exact Nat.zero_mod _))]
theorem eK.pw {n : Nat} {g : PS R} (h : eK n g) : ∀ k, eK n (Go.Fg.pw g k)
 | 0 => eK.C n 1
 | k + 1 => (eK.pw h k).mul h
theorem eK.sm {n : Nat} (k : Nat) {u : Nat → PS R} (h : ∀ i, eK n (u i)) : eK n (Go.Fg.sm k u) := fun j hj => by
 rw [sm_c]; exact cH (fun i _ => h i j hj)
theorem eK.comp {n : Nat} (e : PS R) {g : PS R} (h : eK n g) : eK n (comp e g) := fun j hj =>
 eK.sm (j + 1) (u := fun i => PS.C (e.c (0 + i)) * Go.Fg.pw g i) (fun i => (eK.C n _).mul (h.pw i)) j hj
theorem eK.trn (n : Nat) (g : PS R) : eK n (trn n g) := fun j hj => if_neg hj
theorem Abb {N n : Nat} {g h : PS R} (e : Ag N g h) : Ag N (trn n g) (trn n h) := fun j hj => by
 show (if j % n = 0 then _ else _) = (if j % n = 0 then _ else _)
 rw [e j hj]
theorem Aig (n : Nat) (g h : PS R) : trn n (g + h) = trn n g + trn n h := PS.ext (fun j => by
 rw [add_c]
 show (if j % n = 0 then nc R n * (g + h).c j else 0) = (if j % n = 0 then nc R n * g.c j else 0) + (if j % n = 0 then nc R n * h.c j else 0)
 split
 · rw [add_c, CR.mul_add]
 · exact (CR.zero_add _).symm)
theorem Av4 {n : Nat} {g : PS R} (h : g.c 0 = 0) : (trn n g).c 0 = 0 := by
 show (if 0 % n = 0 then nc R n * g.c 0 else 0) = 0
 rw [h, Go.Fg.mul_zero]; split <;> rfl
theorem Aer {l b : PS R} (hl : l.c 0 = 0) : (comp l b).c 0 = 0 := by
 show (compN l b 0 1).c 0 = 0
 unfold compN
 rw [bF, fD, CR.zero_add, Nat.add_zero, hl, C_zero, Go.Fg.zero_mul]; rfl
def nmT (N : Nat) (f : PS (PS R)) (a : PS R) : Nat → PS R
 | 0 => 0
 | k + 1 => evT N f (nmT N f a k) a
theorem RH.nmT {S : Type} [CR S] (φ : RH R S) (N : Nat) (f : PS (PS R)) (a : PS R) : ∀ k, φ.ps.f (Go.Fg.PS.nmT N f a k) = Go.Fg.PS.nmT N (φ.pp.f f) (φ.ps.f a) k
 | 0 => φ.ps.zero
 | k + 1 => by
   show φ.ps.f (evT N f _ a) = evT N _ _ _
   rw [φ.evT, RH.nmT φ N f a k]
theorem H6 {f : PS (PS R)} {N : Nat} (L : LwN f N) {a : PS R} (ha : a.c 0 = 0) : ∀ k, Ag N (L.G.nm k (cv N a)).1 (nmT N f a k) ∧ (nmT N f a k).c 0 = 0
 | 0 => ⟨hH (a := (0 : PS R)) rfl, rfl⟩
 | k + 1 => by
   obtain ⟨h1, h2⟩ := H6 L ha k
   refine ⟨?_, L.e0 h2 ha⟩
   refine (hH (L.e0 (L.G.nm k (cv N a)).2.1 (cv N a).2.1)).trans ?_
   exact fW (fun _ _ _ => rfl) h1 (hH ha)
end
def cK {m : Int} (N n : Nat) (f : PS (PS (Zm m))) (a : PS (Zm m)) : PS (Zm m) := ⟨fun i => ((dF (kN n) (rd m (bR n)) N f a n).c (i * n)).c 0⟩
section
variable {M : Int} {f : PS (PS (Zm M))} {N : Nat} {l : PS (Zm M)}
structure Lg (f : PS (PS (Zm M))) (N : Nat) (l : PS (Zm M)) : Prop where
 l0 : l.c 0 = 0
 l1 : l.c 1 = 1
 ok : aW N (comp2N l f 0 N) (axX l + axY l)
theorem F9 (L : LwN f N) (hU : ∀ i, 1 ≤ i → i < N → ∃ u, nc (Zm M) i * u = 1) : ∃ l, Lg f N l := by
 have hN := L.pos
 have hu : ∀ i, ∃ u, 1 ≤ i → i < N → nc (Zm M) i * u = 1 := fun i => by
   by_cases h : 1 ≤ i ∧ i < N
   · obtain ⟨u, hu⟩ := hU i h.1 h.2
     exact ⟨u, fun _ _ => hu⟩
   · exact ⟨0, fun h1 h2 => absurd ⟨h1, h2⟩ h⟩
 obtain ⟨w, hw⟩ : ∃ w : Nat → Zm M, ∀ i, 1 ≤ i → i < N → nc (Zm M) i * w i = 1 := ⟨fun i => Classical.choose (hu i), fun i => Classical.choose_spec (hu i)⟩
 have hq : inv 1 (f.c 1) * f.c 1 = 1 := by rw [CR.mul_comm]; exact Ant (by rw [L.z1]; exact CR.one_mul _)
 have hl : Ag (N - 1) (dS (⟨fun k => if k = 0 then 0 else w k * (inv 1 (f.c 1)).c (k - 1)⟩ : PS (Zm M))) (inv 1 (f.c 1)) := fun k hk => by
   show nc (Zm M) (k + 1) * (if k + 1 = 0 then 0 else w (k + 1) * (inv 1 (f.c 1)).c (k + 1 - 1)) = _
   rw [if_neg (by omega), ← CR.mul_assoc, hw (k + 1) (by omega) (by omega), CR.one_mul, Nat.add_sub_cancel]
 refine ⟨_, rfl, ?_, L.log (Ag.of_eq hq) hl rfl hU⟩
 have := hl 0 (by omega)
 have e : (dS (⟨fun k => if k = 0 then 0 else w k * (inv 1 (f.c 1)).c (k - 1)⟩ : PS (Zm M))).c 0 = nc (Zm M) 1 * (if 1 = 0 then 0 else w 1 * (inv 1 (f.c 1)).c (1 - 1)) := rfl
 rw [e, wX, CR.one_mul, Adp] at this
 exact this
theorem Lg.inj (hl : Lg f N l) {u v : PS (Zm M)} (hu : u.c 0 = 0) (hv : v.c 0 = 0) (h : Ag N (comp l u) (comp l v)) : Ag N u v := by
 have e1 : comp (rev 1 l) l = X := Ahv hl.l0 (by rw [hl.l1]; exact CR.one_mul _)
 have e2 : ∀ {u : PS (Zm M)}, u.c 0 = 0 → comp (rev 1 l) (comp l u) = u := fun hu => by
   rw [← uF _ hl.l0 hu, e1, C9 hu]
 exact ((Ag.of_eq (e2 hu).symm).trans (iX Ag.rfl h)).trans (Ag.of_eq (e2 hv))
theorem Aom {n : Nat} (hn : 2 ≤ n ∧ n ≤ 5) (L : LwN f N) (hl : Lg f N l) {a : PS (Zm M)} (ha : a.c 0 = 0) :
   Ag N (Rw.cutS n (dF (kN n) (rd M (bR n)) N f a n)) ((Rw.con M n).ps.f (comp (rev 1 l) (trn n (comp l a)))) := by
 have hN := L.pos
 have e1 : comp (rev 1 l) l = X := Ahv hl.l0 (by rw [hl.l1]; exact CR.one_mul _)
 refine (Rw.cutS_fr f a n).trans ?_
 have f0 : (((Rw.con M n).pp.f f).c 0).c 0 = 0 := by rw [RH.pp_cc, L.z0, (Rw.con M n).zero]
 have ha' : ((Rw.con M n).ps.f a).c 0 = 0 := by rw [RH.ps_c, ha, (Rw.con M n).zero]
 have l0' : ((Rw.con M n).ps.f l).c 0 = 0 := by rw [RH.ps_c, hl.l0, (Rw.con M n).zero]
 have key := Adn (l := (Rw.con M n).ps.f l) (f := (Rw.con M n).pp.f f) (N := N) (by omega) l0' f0 (fun i j hij => by
   rw [← (Rw.con M n).comp2N, RH.pp_cc, hl.ok i j hij, ← (Rw.con M n).axX, ← (Rw.con M n).axY, ← (Rw.con M n).pp.add, RH.pp_cc]) (Rw.root M n) ha' n
 rw [Art (Rw.root_prim hn), ← (Rw.con M n).comp, ← (Rw.con M n).trn] at key
 have r0 := I1 f0 (Rw.root M n) ha' (N := N) n
 have e2 := iX (a := (Rw.con M n).ps.f (rev 1 l)) (N := N) Ag.rfl key
 have e3 : comp ((Rw.con M n).ps.f (rev 1 l)) (comp ((Rw.con M n).ps.f l) (roots N ((Rw.con M n).pp.f f) (Rw.root M n) ((Rw.con M n).ps.f a) n)) = roots N ((Rw.con M n).pp.f f) (Rw.root M n) ((Rw.con M n).ps.f a) n := by
   rw [← uF _ l0' r0, ← (Rw.con M n).comp, e1, (Rw.con M n).ps_X, C9 r0]
 rw [e3, ← (Rw.con M n).comp] at e2
 exact e2
theorem Adk {n : Nat} (hn : 2 ≤ n ∧ n ≤ 5) (L : LwN f N) (hl : Lg f N l) {a : PS (Zm M)} (ha : a.c 0 = 0) :
   Ag N (vs n (cK N n f a)) (comp (rev 1 l) (trn n (comp l a))) := fun j hj => by
 rw [iK (by omega)]
 by_cases h : j % n = 0
 · rw [if_pos h]
   have e := Aom hn L hl ha j hj
   have h2 := Rw.con_inj e
   show ((dF (kN n) (rd M (bR n)) N f a n).c (j / n * n)).c 0 = _
   rw [Nat.div_mul_cancel (Nat.dvd_of_mod_eq_zero h)]
   exact h2
 · rw [if_neg h, (eK.trn n (comp l a)).comp (rev 1 l) j h]
theorem uW {n : Nat} (hn : 2 ≤ n ∧ n ≤ 5) (L : LwN f N) (hl : Lg f N l) {a : PS (Zm M)} (ha : a.c 0 = 0) : (cK N n f a).c 0 = 0 := by
 have hN := L.pos
 have := Adk hn L hl ha 0 (by omega)
 rw [iK (by omega), Nat.zero_mod, if_pos rfl, Nat.zero_div] at this
 rw [this]
 exact Aer rfl
theorem xD {n : Nat} (hn : 2 ≤ n ∧ n ≤ 5) (L : LwN f N) (hl : Lg f N l) {a : PS (Zm M)} (ha : a.c 0 = 0) :
   Ag N (comp l (vs n (cK N n f a))) (trn n (comp l a)) := by
 have e1 : comp l (rev 1 l) = X := S0 hl.l0 (by rw [hl.l1]; exact CR.one_mul _)
 have t0 : (trn n (comp l a)).c 0 = 0 := Av4 (Aer hl.l0)
 refine (iX Ag.rfl (Adk hn L hl ha)).trans (Ag.of_eq ?_)
 rw [← uF _ rfl t0, e1, C9 t0]
theorem Atn {n : Nat} (hn : 2 ≤ n ∧ n ≤ 5) (L : LwN f N) (hl : Lg f N l) {a b : PS (Zm M)} (ha : a.c 0 = 0) (hb : b.c 0 = 0) {i : Nat} (hi : i * n < N) :
   (cK N n f (evT N f a b)).c i = (evT N f (cK N n f a) (cK N n f b)).c i := by
 have hN := L.pos
 have s0 := L.e0 ha hb
 have A0 := uW hn L hl ha
 have B0 := uW hn L hl hb
 have h : Ag N (vs n (cK N n f (evT N f a b))) (vs n (evT N f (cK N n f a) (cK N n f b))) := by
   refine hl.inj (pZ (by omega) (uW hn L hl s0)) (pZ (by omega) (L.e0 A0 B0)) ?_
   refine (xD hn L hl s0).trans ?_
   refine (Abb (I7 (by omega) L.z0 hl.ok ha hb)).trans ?_
   rw [Aig]
   refine ((xD hn L hl ha).symm.add (xD hn L hl hb).symm).trans ?_
   refine (I7 (by omega) L.z0 hl.ok (pZ (by omega) A0) (pZ (by omega) B0)).symm.trans ?_
   exact iX Ag.rfl (Z4 (by omega) f _ _ (Aa1 (by omega) 1)).symm
 have := h (i * n) hi
 rwa [B8 (by omega), B8 (by omega)] at this
theorem Awo {n : Nat} (hn : 2 ≤ n ∧ n ≤ 5) (L : LwN f N) (hl : Lg f N l) {a a' : PS (Zm M)} (ha : a.c 0 = 0) (ha' : a'.c 0 = 0) (h : Ag N a' (vs n a)) {i : Nat} (hi : i * n < N) :
   (cK N n f a').c i = (nmT N f a n).c i := by
 have hN := L.pos
 obtain ⟨g1, g2⟩ := H6 L ha n
 have h2 : Ag N (vs n (cK N n f a')) (vs n (nmT N f a n)) := by
   refine hl.inj (pZ (by omega) (uW hn L hl ha')) (pZ (by omega) g2) ?_
   refine (xD hn L hl ha').trans ?_
   refine (Abb (iX Ag.rfl h)).trans ?_
   rw [Y4 (by omega) l ha, Aip (by omega), Y4 (by omega) l g2]
   refine iX (Ag.symm ?_) Ag.rfl
   refine (iX Ag.rfl g1.symm).trans ((X4 L hl.l0 hl.ok (cv N a) n).trans ?_)
   exact Ag.rfl.mul (iX Ag.rfl (hH ha))
 have := h2 (i * n) hi
 rwa [B8 (by omega), B8 (by omega)] at this
end
end PS
end Go.Fg
namespace Go.Fg
set_option linter.unusedVariables false
set_option linter.unusedSimpArgs false
set_option linter.unusedSectionVars false
set_option maxHeartbeats 4000000
open CR PS
namespace PS
section
variable {m m' : Int} (φ : RH (Zm m) (Zm m'))
theorem Apt (k : Nat) (ρ a : PS (Zm m)) : φ.ps.f (cZ k ρ a) = cZ k (φ.ps.f ρ) (φ.ps.f a) := PS.ext (fun j => by
 rw [RH.ps_c, dI, dI]
 split
 · rw [φ.add, φ.mul]
   congr 1
   split
   · exact φ.zero
   · rfl
 · exact φ.zero)
theorem Q0 (k : Nat) (ρ a : PS (Zm m)) : ∀ i, φ.ps.f (bP k ρ i a) = bP k (φ.ps.f ρ) i (φ.ps.f a)
 | 0 => rfl
 | i + 1 => by
   show φ.ps.f (cZ k ρ (bP k ρ i a)) = cZ k _ (bP k _ i _)
   rw [Apt, Q0 k ρ a i]
theorem W5 (k : Nat) (ρ a b : PS (Zm m)) : φ.ps.f (dC k ρ a b) = dC k (φ.ps.f ρ) (φ.ps.f a) (φ.ps.f b) := PS.ext (fun j => by
 rw [RH.ps_c, eM, eM, φ.sm]
 exact aR (fun i _ => by rw [φ.mul, ← Q0]; rfl))
theorem Aay (k : Nat) (ρ : PS (Zm m)) (N : Nat) (f g : PS (PS (Zm m))) : φ.pp.f (fJ k ρ N f g) = fJ k (φ.ps.f ρ) N (φ.pp.f f) (φ.pp.f g) := PS.ext (fun n => by
 show φ.ps.f ((fJ k ρ N f g).c n) = _
 unfold fJ
 rw [lO, lO, φ.ps.add, φ.ps.sm]
 congr 1
 · refine aR (fun i _ => ?_)
   split
   · rw [W5]; rfl
   · exact φ.ps.zero
 · split
   · rw [W5]; rfl
   · exact φ.ps.zero)
theorem X2 (k : Nat) (ρ : PS (Zm m)) (N : Nat) (a : PS (PS (Zm m))) : ∀ i, φ.pp.f (dV k ρ N a i) = dV k (φ.ps.f ρ) N (φ.pp.f a) i
 | 0 => φ.pp.one
 | i + 1 => by
   show φ.pp.f (fJ k ρ N (dV k ρ N a i) a) = _
   rw [Aay, X2 k ρ N a i]; rfl
theorem rN (k : Nat) (ρ : PS (Zm m)) (N : Nat) (f a b : PS (PS (Zm m))) : gE k ρ N f a b = Go.Fg.sm N (fun i => Go.Fg.sm (N - i) fun j => PS.C (PS.C ((f.c i).c j)) * fJ k ρ N (dV k ρ N a i) (dV k ρ N b j)) := by
 unfold gE dP
 exact Go.Fg.add_zero _
theorem Al9 (k : Nat) (ρ : PS (Zm m)) (N : Nat) (f a b : PS (PS (Zm m))) : φ.pp.f (gE k ρ N f a b) = gE k (φ.ps.f ρ) N (φ.pp.f f) (φ.pp.f a) (φ.pp.f b) := by
 rw [rN, rN, φ.pp.sm]
 refine aR (fun i _ => ?_)
 rw [φ.pp.sm]
 refine aR (fun j _ => ?_)
 rw [φ.pp.mul, Aay, X2, X2]
 congr 1
 show φ.ps.ps.f (C (C _)) = _
 rw [φ.ps.ps_C, φ.ps_C]; rfl
theorem Abm (k : Nat) (ρ s : PS (Zm m)) : ∀ j, φ.ps.f (iD k ρ s j) = iD k (φ.ps.f ρ) (φ.ps.f s) j
 | 0 => φ.ps.one
 | j + 1 => by
   show φ.ps.f (dC k ρ (iD k ρ s j) s) = _
   rw [W5, Abm k ρ s j]; rfl
theorem Ak1 (k : Nat) (ρ s a : PS (Zm m)) : φ.pp.f (jN k ρ s a) = jN k (φ.ps.f ρ) (φ.ps.f s) (φ.ps.f a) := PS.ext (fun j => by
 show φ.ps.f (C (a.c j) * iD k ρ s j) = C (φ.f (a.c j)) * iD k _ _ j
 rw [φ.ps.mul, φ.ps_C, Abm])
theorem Ag3 (k : Nat) (ρ : PS (Zm m)) (N : Nat) (f : PS (PS (Zm m))) (a : PS (Zm m)) : ∀ i, φ.pp.f (dF k ρ N f a i) = dF k (φ.ps.f ρ) N (φ.pp.f f) (φ.ps.f a) i
 | 0 => φ.pp.zero
 | i + 1 => by
   show φ.pp.f (gE k ρ N f (dF k ρ N f a i) (jN k ρ (bP k ρ i 1) a)) = _
   rw [Al9, Ag3 k ρ N f a i, Ak1, Q0, φ.ps.one]; rfl
theorem Y7 (k : Nat) (ρ : PS (Zm m)) (N : Nat) {f g : PS (PS (Zm m))} (h : aW N f g) (a : PS (Zm m)) : ∀ i, dF k ρ N f a i = dF k ρ N g a i
 | 0 => rfl
 | i + 1 => by
   show gE k ρ N f (dF k ρ N f a i) _ = gE k ρ N g (dF k ρ N g a i) _
   rw [Y7 k ρ N h a i, rN, rN]
   exact aR (fun p hp => aR (fun q hq => by rw [h p q (by omega)]))
end
theorem E9 {a b : Zm 0} (h : ∀ K : Nat, (cI (2520 * (K : Int) + 1)).f a = (cI (2520 * (K : Int) + 1)).f b) : a = b := by
 refine Zm.val_inj ?_
 have h1 := h (a.val - b.val).natAbs
 have h2 := Zm.mk_eq.1 h1
 have h3 : (2520 * (((a.val - b.val).natAbs : Nat) : Int) + 1) ∣ a.val - b.val := Int.dvd_of_emod_eq_zero (by rw [Int.sub_emod, h2, Int.sub_self, Int.zero_emod])
 have h4 := Int.natAbs_dvd_natAbs.2 h3
 rcases Nat.eq_zero_or_pos (a.val - b.val).natAbs with h0 | h0
 · omega
 · have := Nat.le_of_dvd h0 h4
   omega
theorem R9 (K : Nat) : ∀ i, 1 ≤ i → i < 11 → ∃ u, nc (Zm (2520 * (K : Int) + 1)) i * u = 1 := by
 intro i h1 h2
 obtain ⟨c, hc⟩ : ∃ c : Nat, i * c = 2520 := by
   have : i = 1 ∨ i = 2 ∨ i = 3 ∨ i = 4 ∨ i = 5 ∨ i = 6 ∨ i = 7 ∨ i = 8 ∨ i = 9 ∨ i = 10 := by omega
   refine ⟨2520 / i, ?_⟩
   rcases this with rfl | rfl | rfl | rfl | rfl | rfl | rfl | rfl | rfl | rfl <;> rfl
 refine ⟨Zm.mk _ (-((c : Int) * K)), ?_⟩
 rw [Arz, ← Zm.mk_mul, ← Zm.mk_one, Zm.mk_eq]
 have e : (i : Int) * (-((c : Int) * K)) = 1 + (2520 * (K : Int) + 1) * (-1) := by
   have : (i : Int) * c = 2520 := by
     have h := Int.natCast_mul i c
     rw [hc] at h
     rw [← h]; rfl
   rw [Int.mul_neg, ← Int.mul_assoc, this]; omega
 rw [e, Int.add_mul_emod_self_left]
section
variable {m : Int}
theorem An3 (l : List Int) : (cI m).ps.f (rd 0 l) = rd m l := PS.ext (fun i => by
 rw [RH.ps_c, rd_c, rd_c, tI])
theorem lU (N n : Nat) (f : PS (PS (Zm 0))) (a : PS (Zm 0)) : (cI m).ps.f (cK N n f a) = cK N n ((cI m).pp.f f) ((cI m).ps.f a) := PS.ext (fun i => by
 show (cI m).f (((dF (kN n) (rd 0 (bR n)) N f a n).c (i * n)).c 0) = _
 rw [← RH.pp_cc, Ag3, An3]; rfl)
def uO (a : PS (Zm m)) : PS (Zm 0) := ⟨fun i => Zm.mk 0 (a.c i).val⟩
theorem uZ (a : PS (Zm m)) : (cI m).ps.f (uO a) = a := PS.ext (fun i => Anr (a.c i))
theorem uY {a : PS (Zm m)} (h : a.c 0 = 0) : (uO a).c 0 = 0 := by
 show Zm.mk 0 (a.c 0).val = 0
 rw [h, Zm.val_zero, Zm.mk_zero]
theorem wO {N n : Nat} {f g : PS (PS (Zm m))} (h : aW N f g) (a : PS (Zm m)) : cK N n f a = cK N n g a := PS.ext (fun i => by
 show ((dF _ _ N f a n).c _).c 0 = ((dF _ _ N g a n).c _).c 0
 rw [Y7 _ _ N h])
theorem Q3 {N : Nat} {f g : PS (PS (Zm m))} (h : aW N f g) (a b : PS (Zm m)) : evT N f a b = evT N g a b := by
 unfold evT
 exact aR (fun p hp => aR (fun q hq => by rw [h p q (by omega)]))
theorem Ah2 {N : Nat} {f g : PS (PS (Zm m))} (h : aW N f g) (a : PS (Zm m)) : ∀ k, nmT N f a k = nmT N g a k
 | 0 => rfl
 | k + 1 => by
   show evT N f (nmT N f a k) a = evT N g (nmT N g a k) a
   rw [Ah2 h a k, Q3 h]
theorem Atf {N n : Nat} (hN : N ≤ 11) (hn : 2 ≤ n ∧ n ≤ 5) {F : PS (PS (Zm 0))} (L : LwN F N) {a b : PS (Zm 0)} (ha : a.c 0 = 0) (hb : b.c 0 = 0) {i : Nat} (hi : i * n < N) :
   (cK N n F (evT N F a b)).c i = (evT N F (cK N n F a) (cK N n F b)).c i := by
 refine E9 (fun K => ?_)
 obtain ⟨l, hl⟩ := F9 ((cI (2520 * (K : Int) + 1)).law L) (fun i h1 h2 => R9 K i h1 (by omega))
 have h := Atn hn ((cI (2520 * (K : Int) + 1)).law L) hl (a := (cI _).ps.f a) (b := (cI _).ps.f b) (by rw [RH.ps_c, ha, RH.zero]) (by rw [RH.ps_c, hb, RH.zero]) hi
 rw [← RH.evT, ← lU, ← lU, ← lU, ← RH.evT] at h
 exact h
theorem Ajh {N n : Nat} (hN : N ≤ 11) (hn : 2 ≤ n ∧ n ≤ 5) {F : PS (PS (Zm 0))} (L : LwN F N) {a a' : PS (Zm 0)} (ha : a.c 0 = 0) (ha' : a'.c 0 = 0) (h : Ag N a' (vs n a)) {i : Nat} (hi : i * n < N) :
   (cK N n F a').c i = (nmT N F a n).c i := by
 refine E9 (fun K => ?_)
 obtain ⟨l, hl⟩ := F9 ((cI (2520 * (K : Int) + 1)).law L) (fun i h1 h2 => R9 K i h1 (by omega))
 have h := Awo hn ((cI (2520 * (K : Int) + 1)).law L) hl (a := (cI _).ps.f a) (a' := (cI _).ps.f a') (by rw [RH.ps_c, ha, RH.zero]) (by rw [RH.ps_c, ha', RH.zero]) (fun j hj => by
   rw [RH.ps_c, h j hj, iK (by omega), iK (by omega)]
   split
   · rfl
   · exact RH.zero _) hi
 rw [← RH.nmT, ← lU] at h
 exact h
theorem Akx (hm : 0 < m) {N n : Nat} (hN : N ≤ 11) (hn : 2 ≤ n ∧ n ≤ 5) {f : PS (PS (Zm m))} (L : LwN f N) {a b : PS (Zm m)} (ha : a.c 0 = 0) (hb : b.c 0 = 0) {i : Nat} (hi : i * n < N) :
   (cK N n f (evT N f a b)).c i = (evT N f (cK N n f a) (cK N n f b)).c i := by
 have h2 := L.pos
 obtain ⟨d, rfl⟩ : ∃ d, N = 2 + d := ⟨N - 2, by omega⟩
 obtain ⟨F, LF, hF⟩ := yB hm d hN L
 have h := congrArg (cI m).f (Atf hN hn LF (uY ha) (uY hb) hi)
 rw [← RH.ps_c, ← RH.ps_c, lU, RH.evT, RH.evT, lU, lU, uZ, uZ] at h
 rw [wO hF, Q3 hF, wO hF, wO hF, Q3 hF] at h
 exact h
theorem Ar6 (hm : 0 < m) {N n : Nat} (hN : N ≤ 11) (hn : 2 ≤ n ∧ n ≤ 5) {f : PS (PS (Zm m))} (L : LwN f N) {a : PS (Zm m)} (ha : a.c 0 = 0) {i : Nat} (hi : i * n < N) :
   (cK N n f (vs n a)).c i = (nmT N f a n).c i := by
 have h2 := L.pos
 obtain ⟨d, rfl⟩ : ∃ d, N = 2 + d := ⟨N - 2, by omega⟩
 obtain ⟨F, LF, hF⟩ := yB hm d hN L
 have h := congrArg (cI m).f (Ajh hN hn LF (uY ha) (pZ (by omega) (uY ha)) Ag.rfl hi)
 have e : (cI m).ps.f (vs n (uO a)) = vs n a := PS.ext (fun j => by
   rw [RH.ps_c, iK (by omega), iK (by omega)]
   split
   · rw [← RH.ps_c, uZ]
   · exact RH.zero _)
 rw [← RH.ps_c, ← RH.ps_c, lU, RH.nmT, e, uZ] at h
 rw [wO hF, Ah2 hF] at h
 exact h
end
end PS
end Go.Fg
namespace Go.Fg
set_option linter.unusedVariables false
set_option linter.unusedSimpArgs false
namespace PS
variable {m : Int}
theorem Ahl (k : Nat) (ρ : PS (Zm m)) {N : Nat} {f f' g g' : PS (PS (Zm m))} (hf : Ag N f f') (hg : Ag N g g') : Ag N (fJ k ρ N f g) (fJ k ρ N f' g') := fun n hn => by
 unfold fJ
 rw [lO, lO, if_neg (by omega), if_neg (by omega)]
 congr 1
 exact aR (fun a ha => by
   split
   · rw [hf a ha, hg (n - a) (by omega)]
   · rfl)
theorem G7 (k : Nat) (ρ : PS (Zm m)) {N : Nat} {a a' : PS (PS (Zm m))} (h : Ag N a a') : ∀ i, Ag N (dV k ρ N a i) (dV k ρ N a' i)
 | 0 => Ag.rfl
 | i + 1 => Ahl k ρ (G7 k ρ h i) h
theorem Aj4 (k : Nat) (ρ : PS (Zm m)) {N : Nat} (f : PS (PS (Zm m))) {a a' b b' : PS (PS (Zm m))} (ha : Ag N a a') (hb : Ag N b b') : Ag N (gE k ρ N f a b) (gE k ρ N f a' b') := fun n hn => by
 rw [rN, rN, sm_c, sm_c]
 refine aR (fun p hp => ?_)
 rw [sm_c, sm_c]
 refine aR (fun q hq => ?_)
 rw [C_mul, C_mul, Ahl k ρ (G7 k ρ ha p) (G7 k ρ hb q) n hn]
theorem Ao0 (k : Nat) (ρ s : PS (Zm m)) {N : Nat} {a a' : PS (Zm m)} (h : Ag N a a') : Ag N (jN k ρ s a) (jN k ρ s a') := fun j hj => by
 show PS.C (a.c j) * _ = PS.C (a'.c j) * _
 rw [h j hj]
theorem Afn (k : Nat) (ρ : PS (Zm m)) {N : Nat} (f : PS (PS (Zm m))) {a a' : PS (Zm m)} (h : Ag N a a') : ∀ i, Ag N (dF k ρ N f a i) (dF k ρ N f a' i)
 | 0 => Ag.rfl
 | i + 1 => Aj4 k ρ f (Afn k ρ f h i) (Ao0 k ρ _ h)
theorem Akj {N : Nat} (n : Nat) (f : PS (PS (Zm m))) {a a' : PS (Zm m)} (h : Ag N a a') {i : Nat} (hi : i * n < N) : (cK N n f a).c i = (cK N n f a').c i := by
 show ((dF _ _ N f a n).c _).c 0 = ((dF _ _ N f a' n).c _).c 0
 rw [Afn _ _ f h n (i * n) hi]
theorem Aai {K N : Nat} (h : K ≤ N) {f : PS (PS (Zm m))} (f0 : (f.c 0).c 0 = 0) {a : PS (Zm m)} (ha : a.c 0 = 0) : ∀ k, Ag K (nmT N f a k) (nmT K f a k) ∧ (nmT N f a k).c 0 = 0 ∧ (nmT K f a k).c 0 = 0
 | 0 => ⟨Ag.rfl, rfl, rfl⟩
 | k + 1 => by
   obtain ⟨h1, h2, h3⟩ := Aai h f0 ha k
   refine ⟨?_, eB f0 h2 ha, eB f0 h3 ha⟩
   show Ag K (evT N f (nmT N f a k) a) (evT K f (nmT K f a k) a)
   exact (zD h f h2 ha).trans (fW (fun _ _ _ => rfl) h1 Ag.rfl)
theorem Af8 (hm : 0 < m) {N n : Nat} (hN : N ≤ 11) (hn : 2 ≤ n ∧ n ≤ 5) {f : PS (PS (Zm m))} (L : LwN f N) {a : PS (Zm m)} (ha : a.c 0 = 0) : (cK N n f a).c 0 = 0 := by
 have h2 := L.pos
 obtain ⟨d, rfl⟩ : ∃ d, N = 2 + d := ⟨N - 2, by omega⟩
 obtain ⟨F, LF, hF⟩ := yB hm d hN L
 have h : (cK (2 + d) n F (uO a)).c 0 = 0 := E9 (fun K => by
   obtain ⟨l, hl⟩ := F9 ((cI (2520 * (K : Int) + 1)).law LF) (fun i h1 h2 => R9 K i h1 (by omega))
   have h := uW hn ((cI (2520 * (K : Int) + 1)).law LF) hl (a := (cI _).ps.f (uO a)) (by rw [RH.ps_c, uY ha, RH.zero])
   rw [← lU, RH.ps_c] at h
   rw [h, RH.zero])
 have h9 := congrArg (cI m).f h
 rw [← RH.ps_c, lU, uZ, wO hF, RH.zero] at h9
 exact h9
theorem Aql {n k : Nat} (hn : 1 ≤ n) (hk : 1 ≤ k) (a : PS (Zm m)) : vs n (vs k a) = vs (k * n) a := PS.ext (fun j => by
 have hkn : 1 ≤ k * n := Nat.mul_pos (by omega) (by omega)
 rw [iK hn, iK hk, iK hkn, Nat.div_div_eq_div_mul, Nat.mul_comm n k]
 by_cases h : j % n = 0
 · rw [if_pos h]
   have e : j / n % k = 0 ↔ j % (k * n) = 0 := by
     have h1 := Nat.div_add_mod j n
     rw [h, Nat.add_zero] at h1
     constructor
     · intro h2
       have h3 := Nat.div_add_mod (j / n) k
       rw [h2, Nat.add_zero] at h3
       rw [← h1, ← h3, ← Nat.mul_assoc, Nat.mul_comm n k]
       exact Nat.mul_mod_right _ _
     · intro h2
       obtain ⟨c, hc⟩ := Nat.dvd_of_mod_eq_zero h2
       have : j / n = k * c := by
         rw [hc, Nat.mul_comm k n, Nat.mul_assoc, Nat.mul_div_cancel_left _ (by omega)]
       rw [this]; exact Nat.mul_mod_right _ _
   by_cases h2 : j / n % k = 0
   · rw [if_pos h2, if_pos (e.1 h2)]
   · rw [if_neg h2, if_neg (fun h3 => h2 (e.2 h3))]
 · rw [if_neg h, if_neg (fun h3 => h ?_)]
   obtain ⟨c, hc⟩ := Nat.dvd_of_mod_eq_zero h3
   rw [hc, Nat.mul_comm k n, Nat.mul_assoc]; exact Nat.mul_mod_right _ _)
end PS
end Go.Fg
