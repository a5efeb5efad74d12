import Derived.Test.YtghcpginhamelaaGreatAlg33
import Derived.Test.YtghcpginhamelaaGreatAlg27
namespace Go.Fg
set_option linter.unusedVariables false
set_option linter.unusedSimpArgs false
set_option linter.unusedSectionVars false
open CR PS
instance : CR Rat where
 add_assoc := Rat.add_assoc
 add_comm := Rat.add_comm
 zero_add := Rat.zero_add
 neg_add := Rat.neg_add_cancel
 mul_assoc := Rat.mul_assoc
 mul_comm := Rat.mul_comm
 one_mul := Rat.one_mul
 mul_add := Rat.mul_add
structure RH (R S : Type) [CR R] [CR S] where
 f : R → S
 add : ∀ a b, f (a + b) = f a + f b
 mul : ∀ a b, f (a * b) = f a * f b
 one : f 1 = 1
namespace RH
section
variable {R S : Type} [CR R] [CR S] (φ : RH R S)
theorem zero : φ.f 0 = 0 := by
 have h := φ.add 0 0
 rw [CR.zero_add] at h
 have h2 : φ.f 0 + φ.f 0 = φ.f 0 + 0 := by rw [← h, Go.Fg.add_zero]
 exact Go.Fg.add_left_cancel h2
theorem neg (a : R) : φ.f (-a) = -φ.f a := Go.Fg.neg_unique (by rw [← φ.add, Go.Fg.add_neg, φ.zero])
theorem sub (a b : R) : φ.f (a - b) = φ.f a - φ.f b := by rw [Go.Fg.sub_def, Go.Fg.sub_def, φ.add, φ.neg]
theorem sm (n : Nat) (u : Nat → R) : φ.f (Go.Fg.sm n u) = Go.Fg.sm n fun i => φ.f (u i) := by
 induction n with
 | zero => exact φ.zero
 | succ n ih => rw [bF, φ.add, ih, bF]
theorem pw (a : R) : ∀ k, φ.f (Go.Fg.pw a k) = Go.Fg.pw (φ.f a) k
 | 0 => φ.one
 | k + 1 => by rw [bX, φ.mul, pw a k, bX]
def ps : RH (PS R) (PS S) where
 f a := ⟨fun n => φ.f (a.c n)⟩
 add a b := PS.ext (fun n => φ.add _ _)
 mul a b := PS.ext (fun n => by
   show φ.f ((a * b).c n) = _
   rw [bS, φ.sm, bS]
   exact aR (fun i _ => φ.mul _ _))
 one := PS.ext (fun n => by
   show φ.f ((1 : PS R).c n) = _
   rw [one_c, one_c]
   split
   · exact φ.one
   · exact φ.zero)
theorem ps_c (a : PS R) (n : Nat) : (φ.ps.f a).c n = φ.f (a.c n) := rfl
theorem ps_C (r : R) : φ.ps.f (C r) = C (φ.f r) := PS.ext (fun n => by
 rw [ps_c, cO, cO]
 split
 · rfl
 · exact φ.zero)
theorem ps_X : φ.ps.f X = X := PS.ext (fun n => by
 rw [ps_c, jD, jD]
 split
 · exact φ.one
 · exact φ.zero)
def pp : RH (PS (PS R)) (PS (PS S)) := φ.ps.ps
theorem pp_cc (f : PS (PS R)) (i j : Nat) : ((φ.pp.f f).c i).c j = φ.f ((f.c i).c j) := rfl
theorem evT (N : Nat) (f : PS (PS R)) (a b : PS R) : φ.ps.f (Go.Fg.PS.evT N f a b) = Go.Fg.PS.evT N (φ.pp.f f) (φ.ps.f a) (φ.ps.f b) := by
 unfold Go.Fg.PS.evT
 rw [φ.ps.sm]
 refine aR (fun i _ => ?_)
 rw [φ.ps.sm]
 refine aR (fun j _ => ?_)
 rw [φ.ps.mul, φ.ps_C, φ.ps.mul, φ.ps.pw, φ.ps.pw]
 rfl
theorem comp2N (a : PS R) (f : PS (PS R)) (k n : Nat) : φ.pp.f (Go.Fg.comp2N a f k n) = Go.Fg.comp2N (φ.ps.f a) (φ.pp.f f) k n := by
 unfold Go.Fg.comp2N
 rw [φ.pp.sm]
 refine aR (fun i _ => ?_)
 rw [φ.pp.mul, φ.pp.pw]
 congr 1
 show φ.ps.ps.f (C (C (a.c (k + i)))) = _
 rw [φ.ps.ps_C, φ.ps_C]
 rfl
theorem axX (a : PS R) : φ.pp.f (Go.Fg.axX a) = Go.Fg.axX (φ.ps.f a) := PS.ext (fun i => by
 show φ.ps.f (C (a.c i)) = _
 rw [φ.ps_C]; rfl)
theorem axY (a : PS R) : φ.pp.f (Go.Fg.axY a) = Go.Fg.axY (φ.ps.f a) := by
 show φ.ps.ps.f (C a) = _
 rw [φ.ps.ps_C]; rfl
theorem law {f : PS (PS R)} {N : Nat} (L : LwN f N) : LwN (φ.pp.f f) N where
 pos := L.pos
 z0 := by rw [pp_cc, L.z0, φ.zero]
 z1 := by rw [pp_cc, L.z1, φ.one]
 zz i h1 h2 := by rw [pp_cc, L.zz i h1 h2, φ.zero]
 sym i j h := by rw [pp_cc, pp_cc, L.sym i j h]
 as p q k h := by
   have e := congrArg φ.f (L.as p q k h)
   rw [φ.sm, φ.sm] at e
   have e1 : ∀ i p q, ((Go.Fg.pw (φ.pp.f f) i).c p).c q = φ.f (((Go.Fg.pw f i).c p).c q) := fun i p q => by rw [← φ.pp.pw]; rfl
   rw [aR (fun i _ => by rw [e1, pp_cc, ← φ.mul]), e]
   exact aR (fun j _ => by rw [e1, pp_cc, ← φ.mul])
end
end RH
def cI (m : Int) : RH (Zm 0) (Zm m) where
 f a := Zm.mk m a.val
 add a b := by
   obtain ⟨x, rfl⟩ : ∃ x, a = Zm.mk 0 x := ⟨_, (Zm.mk_val _).symm⟩
   obtain ⟨y, rfl⟩ : ∃ x, b = Zm.mk 0 x := ⟨_, (Zm.mk_val _).symm⟩
   rw [← Zm.mk_add, Zm.val_mk, Zm.val_mk, Zm.val_mk, Int.emod_zero, Int.emod_zero, Int.emod_zero, Zm.mk_add]
 mul a b := by
   obtain ⟨x, rfl⟩ : ∃ x, a = Zm.mk 0 x := ⟨_, (Zm.mk_val _).symm⟩
   obtain ⟨y, rfl⟩ : ∃ x, b = Zm.mk 0 x := ⟨_, (Zm.mk_val _).symm⟩
   rw [← Zm.mk_mul, Zm.val_mk, Zm.val_mk, Zm.val_mk, Int.emod_zero, Int.emod_zero, Int.emod_zero, Zm.mk_mul]
 one := by
   rw [← Zm.mk_one, Zm.val_mk, Int.emod_zero, Zm.mk_one]
theorem tI (m : Int) (x : Int) : (cI m).f (Zm.mk 0 x) = Zm.mk m x := by
 show Zm.mk m (Zm.mk 0 x).val = _
 rw [Zm.val_mk, Int.emod_zero]
theorem Anr {m : Int} (a : Zm m) : (cI m).f (Zm.mk 0 a.val) = a := by rw [tI, Zm.mk_val]
end Go.Fg
namespace Go.Fg
set_option linter.unusedVariables false
set_option linter.unusedSimpArgs false
set_option linter.unusedSectionVars false
namespace PS
section
variable {m : Int}
theorem LwN.le {f : PS (PS (Zm m))} {N K : Nat} (L : LwN f N) (h2 : 2 ≤ K) (h : K ≤ N) : LwN f K where
 pos := h2
 z0 := L.z0
 z1 := L.z1
 zz i h1 h2 := L.zz i (by omega) h2
 sym i j h := L.sym i j (by omega)
 as p q k hs := (vP L.z0 hs h).1 ((vP L.z0 (show p + q + k < N by omega) (Nat.le_refl N)).2 (L.as p q k (by omega)))
theorem RH.gam {R S : Type} [CR R] [CR S] (φ : RH R S) (f : PS (PS R)) (K p q k : Nat) : φ.f (Go.Fg.PS.gam f K p q k) = Go.Fg.PS.gam (φ.pp.f f) K p q k := by
 have e1 : ∀ i p q, ((Go.Fg.pw (φ.pp.f f) i).c p).c q = φ.f (((Go.Fg.pw f i).c p).c q) := fun i p q => by rw [← φ.pp.pw]; rfl
 unfold Go.Fg.PS.gam
 rw [φ.sub, φ.sm, φ.sm]
 congr 1
 · exact aR (fun i _ => by rw [φ.mul, e1, φ.pp_cc])
 · exact aR (fun i _ => by rw [φ.mul, e1, φ.pp_cc])
theorem RH.budEq (m : Int) {f : PS (PS (Zm 0))} {n : Nat} {v : Nat → Zm 0} (h : iL f n v) : iL ((cI m).pp.f f) n (fun i => (cI m).f (v i)) := by
 refine ⟨fun i hi => congrArg (cI m).f (h.1 i hi), fun p q k h1 h2 h3 h4 => ?_⟩
 have e := congrArg (cI m).f (h.2 p q k h1 h2 h3 h4)
 rw [(cI m).add, (cI m).mul, (cI m).mul, tI, tI, RH.gam] at e
 exact e
theorem LwN.top {f : PS (PS (Zm m))} {N : Nat} (L : LwN f N) (hN : N ≤ 10) {v : Nat → Zm m} (v0 : v 0 = 0) (hv : iL (mN f N) N v) : LwN (kQ (mN f N) N v) (N + 1) := by
 have h2 := L.pos
 have T := L.low.top h2 v0 hv.1
 have hg := (Y0 L.low ⟨h2, hN⟩ v0 hv.1).2 hv
 exact ⟨by omega, T.z0, T.z1, T.zz, T.sym, fun p q k h => (vP T.z0 h (by omega)).1 (hg p q k h)⟩
theorem LwN.part {f : PS (PS (Zm m))} {N : Nat} (L : LwN f (N + 1)) (hN : 2 ≤ N ∧ N ≤ 10) : iL (mN f N) N (fun i => if i ≤ N then (f.c i).c (N - i) else 0) ∧ (f.c 0).c N = 0 := by
 have z0 : (f.c 0).c N = 0 := by rw [L.sym 0 N (by omega)]; exact L.zz N (by omega) (by omega)
 have hs : ∀ i, i ≤ N → (fun i => if i ≤ N then (f.c i).c (N - i) else (0 : Zm m)) (N - i) = (fun i => if i ≤ N then (f.c i).c (N - i) else 0) i := fun i hi => by
   show (if _ then _ else _) = (if _ then _ else _)
   rw [if_pos (by omega), if_pos hi, show N - (N - i) = i by omega]
   exact L.sym _ _ (by omega)
 have v0 : (fun i => if i ≤ N then (f.c i).c (N - i) else (0 : Zm m)) 0 = 0 := by
   show (if _ then _ else _) = _
   rw [if_pos (by omega)]; exact z0
 refine ⟨(Y0 (L.le hN.1 (by omega)).low hN v0 hs).1 (fun p q k h => ?_), z0⟩
 have e : ∀ i j, i + j < N + 1 → ((kQ (mN f N) N (fun i => if i ≤ N then (f.c i).c (N - i) else 0)).c i).c j = (f.c i).c j := fun i j h => by
   rw [oU, pB]
   by_cases h1 : i + j = N
   · rw [if_pos h1, if_neg (by omega), CR.zero_add]
     show (if _ then _ else _) = _
     rw [if_pos (by omega), show N - i = j by omega]
   · rw [if_neg h1, if_pos (by omega)]
 rw [W2 (g := f) (by rw [e 0 0 (by omega), L.z0]) L.z0 e h]
 exact (vP L.z0 h (Nat.le_refl _)).2 (L.as p q k h)
theorem yB (hm : 0 < m) : ∀ (d : Nat) {f : PS (PS (Zm m))}, 2 + d ≤ 11 → LwN f (2 + d) → ∃ F : PS (PS (Zm 0)), LwN F (2 + d) ∧ aW (2 + d) ((cI m).pp.f F) f
 | 0, f, h, L => by
   have hX : ∀ N, Ag N (comp (X : PS (Zm 0)) X) X := fun N => Ag.of_eq (Aht _)
   have LF := As1 (e := (X : PS (Zm 0))) (l := X) rfl rfl (N := 2) (by omega) (hX 2) (hX 2)
   have LG := (cI m).law LF
   refine ⟨_, LF, fun i j hij => ?_⟩
   have hc : (i = 0 ∧ j = 0) ∨ (i = 1 ∧ j = 0) ∨ (i = 0 ∧ j = 1) := by omega
   rcases hc with ⟨rfl, rfl⟩ | ⟨rfl, rfl⟩ | ⟨rfl, rfl⟩
   · rw [LG.z0, L.z0]
   · rw [LG.z1, L.z1]
   · rw [LG.sym 0 1 (by omega), L.sym 0 1 (by omega), LG.z1, L.z1]
 | d + 1, f, h, L => by
   have L' : LwN f (2 + d + 1) := L
   obtain ⟨F, LF, hF⟩ := yB hm d (by omega) (L'.le (show 2 ≤ 2 + d by omega) (by omega))
   have hN : 2 ≤ 2 + d ∧ 2 + d ≤ 10 := by omega
   rw [show 2 + (d + 1) = 2 + d + 1 by omega]
   generalize 2 + d = N at *
   obtain ⟨V, V0, hV⟩ := Atr LF.low hN
   have elow : (cI m).pp.f (mN F N) = mN f N := yZ (fun i j => by
     rw [RH.pp_cc, pB, pB]
     by_cases hij : i + j < N
     · rw [if_pos hij, if_pos hij]; exact hF i j hij
     · rw [if_neg hij, if_neg hij]; exact (cI m).zero)
   have hw := RH.budEq m hV
   rw [elow] at hw
   obtain ⟨hv, z0⟩ := L'.part hN
   obtain ⟨c, _, hc⟩ := Akm hm hN (v := fun i => (cI m).f (V i)) (w := fun i => if i ≤ N then (f.c i).c (N - i) else 0) (by show (cI m).f (V 0) = 0; rw [V0]; exact (cI m).zero) (by show (if _ then _ else _) = _; rw [if_pos (by omega)]; exact z0) hw hv
   have hV2 := hV.laz hN (Zm.mk 0 c)
   have hV20 : V 0 + pT 0 N (Zm.mk 0 c) 0 = 0 := by
     have e : dE N 0 = 0 := by unfold dE; exact if_neg (by omega)
     rw [V0, CR.zero_add, pT, e]; exact Go.Fg.mul_zero _
   have LT := LF.top hN.2 hV20 hV2
   refine ⟨_, LT, fun i j hij => ?_⟩
   rw [RH.pp_cc, oU, pB]
   by_cases h1 : i + j = N
   · rw [if_pos h1, if_neg (by omega), CR.zero_add, (cI m).add]
     have e2 : (cI m).f (pT 0 N (Zm.mk 0 c) i) = pT m N (Zm.mk m c) i := by
       unfold pT
       rw [(cI m).mul, tI, tI]
     have e3 := hc i (by omega)
     rw [if_pos (by omega), show N - i = j by omega] at e3
     rw [e2]; exact e3.symm
   · rw [if_neg h1, if_pos (by omega)]; exact hF i j (by omega)
end
end PS
end Go.Fg
