/- The first difference of two laws is a cocycle. -/
import Derived.Test.YtocnfkphpmolkaaGreatK153
import Derived.Test.YtocnfkphpmolkaaGreatK23
import Derived.Test.YtocnfkphpmolkaaGreatK132
import Derived.Test.YtocnfkphpmolkaaGreatK25
import Derived.Test.YtocnfkphpmolkaaGreatK134

namespace Go.Proofs
open Go Go.Vm Go.Fg Go.Fg.PS
set_option maxRecDepth 100000
set_option linter.unusedSimpArgs false
set_option linter.unusedVariables false
variable {m : Int}
theorem cr_diff {R : Type} [CR R] {G x y u v B C : R} (e1 : G + x * B = u * C) (e2 : G + y * B = v * C) : (y + -x) * B = (v + -u) * C := by
  rw [Go.Fg.add_mul, Go.Fg.neg_mul, Go.Fg.add_mul, Go.Fg.neg_mul, ← e1, ← e2, Go.Fg.neg_add_rev]
  rw [show G + y * B + (-G + -(x * B)) = (G + -G) + (y * B + -(x * B)) by ac_rfl, Go.Fg.add_neg, CR.zero_add]
theorem diff_coc {f g : PS (PS (Zm m))} {N n : Nat} (hf : LawP f N) (hg : LawP g N) (hn : 2 ≤ n ∧ n ≤ 10) (hN : n < N) (hag : ∀ i j, i + j < n → (f.c i).c j = (g.c i).c j) : CocP (topP n fun i => (g.c i).c (n - i) + -(f.c i).c (n - i)) n := by
  obtain ⟨B1, z1⟩ := law_bud hn (lawP_le (by omega) (show n + 1 ≤ N by omega) hf)
  obtain ⟨B2, z2⟩ := law_bud hn (lawP_le (by omega) (show n + 1 ≤ N by omega) hg)
  have e : lowP g n = lowP f n := ext2 (fun i j => by
    show (if _ then _ else _) = (if _ then _ else _)
    split
    · rename_i h; exact (hag i j h).symm
    · rfl)
  rw [e] at B2
  have ht : ∀ i, i ≤ n → tpc (topP n fun i => (g.c i).c (n - i) + -(f.c i).c (n - i)) n i = (g.c i).c (n - i) + -(f.c i).c (n - i) := fun i hi => by
    unfold tpc; rw [topP_cc, if_pos (by omega)]
  refine ⟨hn.1, fun i j hij => by rw [topP_cc, if_neg (by omega)], fun i hi => ?_, ?_, fun a b ha hb hab => ?_⟩
  · have k1 : (f.c (n - i)).c (n - (n - i)) = (f.c i).c (n - i) := B1.1 i hi
    have k2 : (g.c (n - i)).c (n - (n - i)) = (g.c i).c (n - i) := B2.1 i hi
    rw [ht i hi, ht (n - i) (by omega), k1, k2]
  · rw [ht 0 (by omega), z1, z2]; exact Go.Fg.add_neg _
  · have e1 := B1.2 a b (n - a - b) ha hb (by omega) (by omega)
    have e2 := B2.2 a b (n - a - b) ha hb (by omega) (by omega)
    rw [show b + (n - a - b) = n - a by omega] at e1 e2
    unfold cocR
    rw [ht (a + b) (by omega), ht a (by omega), CR.mul_comm (Zm.mk m _) ((g.c (a + b)).c (n - (a + b)) + -(f.c (a + b)).c (n - (a + b))), CR.mul_comm (Zm.mk m _) ((g.c a).c (n - a) + -(f.c a).c (n - a))]
    refine cr_diff (G := gam (lowP f n) (n + 1) a b (n - a - b)) ?_ ?_
    · exact e1
    · exact e2
end Go.Proofs



-- tables
-- rec
namespace Go.Proofs
open Go Go.Vm Go.Fg Go.Fg.PS
set_option maxRecDepth 100000
set_option linter.unusedSimpArgs false
set_option linter.unusedVariables false
variable {m : Int}
theorem rd2_TbC {N i j : Nat} (f : PS (PS (Zm m))) (h : i + j < N) : ((rd2 m (Tb N f)).c i).c j = (f.c i).c j := by
  show Zm.mk m (((Tb N f).getD i []).getD j 0) = _
  rw [Tb_getD f (by omega), L_getD _ (by omega), Zm.mk_val]
theorem numsB_L (hm : Md m) (n : Nat) (a : PS (Zm m)) : numsB m (L n a) = true := numsB_of (fun j hj => by
  rw [L_getD _ (by simpa using hj)]
  have := Zm.val_range hm.pos (a.c j)
  simp [inB]; omega)
theorem plB_TbT (hm : Md m) {N : Nat} (hN : 2 ≤ N ∧ N ≤ 11) (f : PS (PS (Zm m))) : plB m (Tb N f) = true :=
  plB_yes (by simpa [inB, Md] using hm) (by simpa using hN) (fun j hj => by
    have hj2 : j < N := by simpa using hj
    unfold rowOk
    rw [Tb_getD f hj2]
    simp only [L_length, Tb_length, decide_true, Bool.true_and]
    exact numsB_L hm _ _)
theorem tpc_Tb {N n i : Nat} (f : PS (PS (Zm m))) (h : n < N) (hi : i ≤ n) : tpc (rd2 m (Tb N f)) n i = tpc f n i := by
  unfold tpc
  exact rd2_TbC f (by omega)
theorem cocP_Tb {N n : Nat} {f : PS (PS (Zm m))} (hN : n < N) (h : CocP f n) : CocP (rd2 m (Tb N f)) n := by
  refine ⟨h.1, fun i j hij => by rw [rd2_TbC f (by omega)]; exact h.2.1 i j hij, fun i hi => ?_, ?_, fun a b ha hb hab => ?_⟩
  · rw [tpc_Tb f hN hi, tpc_Tb f hN (by omega)]; exact h.2.2.1 i hi
  · rw [tpc_Tb f hN (by omega)]; exact h.2.2.2.1
  · have := h.2.2.2.2 a b ha hb hab
    unfold cocR at this ⊢
    rw [tpc_Tb f hN (by omega), tpc_Tb f hN (by omega)]; exact this
theorem facP_Tb {N n x : Nat} {f : PS (PS (Zm m))} (hN : n < N) : FacP (rd2 m (Tb N f)) n x ↔ FacP f n x := by
  constructor
  · intro h i hi; rw [h i hi, tpc_Tb f hN hi]
  · intro h i hi; rw [h i hi, tpc_Tb f hN hi]
def dfP (f g : PS (PS (Zm m))) (k : Nat) : PS (PS (Zm m)) := topP k fun i => (g.c i).c (k - i) + -(f.c i).c (k - i)
theorem agr_two {f g : PS (PS (Zm m))} {N : Nat} (hN : 2 ≤ N) (hf : LawP f N) (hg : LawP g N) : 2 ≤ agr f g N := by
  have h0 : eqK f g 0 := law_00 hN hf hg
  have h1 : eqK f g 1 := fun i hi => by
    rcases (show i = 0 ∨ i = 1 by omega) with rfl | rfl
    · rw [hf.2.1 0 1 (by omega), hg.2.1 0 1 (by omega), hf.1 1 (by omega), hg.1 1 (by omega)]
    · rw [hf.1 1 (by omega), hg.1 1 (by omega)]
  have hle := agr_le f g N
  rcases Nat.lt_or_ge (agr f g N) 2 with h | h
  · exfalso
    have hn := agr_not (f := f) (g := g) (N := N) (by omega)
    rcases (show agr f g N = 0 ∨ agr f g N = 1 by omega) with e | e
    · rw [e] at hn; exact hn h0
    · rw [e] at hn; exact hn h1
  · exact h
theorem df_coc {f g : PS (PS (Zm m))} {N : Nat} (hN : 2 ≤ N ∧ N ≤ 11) (hf : LawP f N) (hg : LawP g N) (hk : agr f g N < N) : CocP (dfP f g (agr f g N)) (agr f g N) :=
  diff_coc hf hg ⟨agr_two hN.1 hf hg, by omega⟩ hk (fun i j hij => by
    have := agr_all hij i (by omega)
    rw [show i + j - i = j by omega] at this
    exact this)
theorem eqT_agr {f g : PS (PS (Zm m))} {N : Nat} : eqT N f g ↔ agr f g N = N := by
  constructor
  · intro h
    refine agr_full (fun j hj i hi => ?_)
    have := congrArg (fun l => l.getD (j - i) 0) (h i (by omega))
    simp only [L_getD _ (show j - i < N - i by omega)] at this
    exact Zm.val_inj this
  · intro h i hi
    refine L_congr (fun j hj => ?_)
    have := agr_all (f := f) (g := g) (N := N) (j := i + j) (by omega) i (by omega)
    rw [show i + j - i = j by omega] at this
    exact this
theorem fdL_at {f g : PS (PS (Zm m))} {k i : Nat} (h : i ≤ k) : (fdL f g k (k + 1)).getD i 0 = (tpc (dfP f g k) k i).val := by
  unfold fdL tpc dfP
  rw [topP_cc, if_pos (by omega), List.getD_eq_getElem?_getD, List.getElem?_map, List.getElem?_range (by omega)]
  rfl
end Go.Proofs


