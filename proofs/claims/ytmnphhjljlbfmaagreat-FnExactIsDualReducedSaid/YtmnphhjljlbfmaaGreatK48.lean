/- Ranks of laws are at least 2. -/
-- tables
-- rec
import Derived.Test.YtmnphhjljlbfmaaGreatK34
namespace Go.Proofs
open Go Go.Vm Go.Fg Go.Fg.PS
set_option maxRecDepth 100000
set_option maxHeartbeats 4000000
set_option linter.unusedSimpArgs false
set_option linter.unusedVariables false
variable {m : Int}
theorem mul_c1 (x y : PS (Zm m)) : (x * y).c 1 = x.c 0 * y.c 1 + x.c 1 * y.c 0 := by
  rw [mul_c, sm_succ, sm_succ, sm_zero', CR.zero_add]
theorem pw_e0 (x : PS (Zm m)) (hx : x.c 0 = 0) (k : Nat) : (pw x k).c 0 = if k = 0 then 1 else 0 := by
  cases k with
  | zero => rfl
  | succ k => rw [pw_succ, mul_c0, hx, Go.Fg.mul_zero, if_neg (by omega)]
theorem pw_e1 (x : PS (Zm m)) (hx : x.c 0 = 0) (k : Nat) : (pw x k).c 1 = if k = 1 then x.c 1 else 0 := by
  match k with
  | 0 => rfl
  | 1 => rw [pw_one, if_pos rfl]
  | k + 2 => rw [pw_succ, mul_c1, hx, Go.Fg.mul_zero, pw_e0 x hx, if_neg (by omega), Go.Fg.zero_mul, CR.zero_add, if_neg (by omega)]
theorem putS_1 {f : PS (PS (Zm m))} {a b : PS (Zm m)} {n : Nat} (hn : 2 ≤ n) (h1 : (f.c 1).c 0 = 1) (h2 : (f.c 0).c 1 = 1) (ha : a.c 0 = 0) (hb : b.c 0 = 0) : (putS f a b n).c 1 = a.c 1 + b.c 1 := by
  obtain ⟨k, rfl⟩ : ∃ k, n = k + 2 := ⟨n - 2, by omega⟩
  unfold putS putP
  rw [add_c, sm_c, sm_c, sm_zero']
  have ht : ∀ i j, (PS.C ((f.c i).c j) * (pw a i * pw b j)).c 1 = (f.c i).c j * ((if i = 0 then 1 else 0) * (if j = 1 then b.c 1 else 0) + (if i = 1 then a.c 1 else 0) * (if j = 0 then 1 else 0)) := fun i j => by
    rw [C_mul, mul_c1, pw_e0 a ha, pw_e0 b hb, pw_e1 a ha, pw_e1 b hb]
  have hi : ∀ i, (sm (k + 2 - i) fun j => PS.C ((f.c i).c j) * (pw a i * pw b j)).c 1 = if i = 0 then b.c 1 else if i = 1 then a.c 1 else 0 := fun i => by
    rw [sm_c]
    by_cases h0 : i = 0
    · subst h0
      rw [if_pos rfl, sm_one 1 (by omega) (fun j hj hne => by rw [ht, if_pos rfl, if_neg hne, if_neg (by omega), Go.Fg.mul_zero, Go.Fg.zero_mul, CR.zero_add, Go.Fg.mul_zero])]
      rw [ht, if_pos rfl, if_pos rfl, if_neg (by omega), Go.Fg.zero_mul, Go.Fg.add_zero, h2, CR.one_mul, CR.one_mul]
    · rw [if_neg h0]
      by_cases h1' : i = 1
      · subst h1'
        rw [if_pos rfl, sm_one 0 (by omega) (fun j hj hne => by rw [ht, if_neg (by omega), if_neg hne, Go.Fg.zero_mul, Go.Fg.mul_zero, CR.zero_add, Go.Fg.mul_zero])]
        rw [ht, if_neg (by omega), if_pos rfl, if_pos rfl, Go.Fg.zero_mul, CR.zero_add, Go.Fg.mul_one, h1, CR.one_mul]
      · rw [if_neg h1']
        exact sm_zero fun j _ => by rw [ht, if_neg h0, if_neg h1', Go.Fg.zero_mul, Go.Fg.zero_mul, CR.zero_add, Go.Fg.mul_zero]
  rw [sm_congr (fun i _ => hi i), sm_succ_left, sm_succ_left, if_pos rfl, if_neg (by omega), if_pos rfl]
  rw [sm_zero (fun i _ => by rw [if_neg (by omega), if_neg (by omega)])]
  rw [Go.Fg.add_zero, Go.Fg.add_zero, CR.add_comm]
theorem Mul.c1 {f : PS (PS (Zm m))} {n k : Nat} {out a r : PS (Zm m)} (hn : 2 ≤ n) (h1 : (f.c 1).c 0 = 1) (h2 : (f.c 0).c 1 = 1) (hf : (f.c 0).c 0 = 0) (h : Mul f n k out a r) (ho : out.c 0 = 0) (ha : a.c 0 = 0) : r.c 1 = out.c 1 + Zm.mk m k * a.c 1 := by
  induction h with
  | zero out a => rw [show Zm.mk m ((0 : Nat) : Int) = 0 from rfl, Go.Fg.zero_mul, Go.Fg.add_zero]
  | odd k out a r hk h ih =>
    rw [ih (putS_0 hf ho ha) (putS_0 hf ha ha), putS_1 hn h1 h2 ho ha, putS_1 hn h1 h2 ha ha]
    rw [show (k : Int) = ((k / 2 : Nat) : Int) + ((k / 2 : Nat) : Int) + 1 by omega, Zm.mk_add, Zm.mk_add, Zm.mk_one, Go.Fg.add_mul, Go.Fg.add_mul, CR.one_mul, CR.mul_add]
    ac_rfl
  | even k out a r hk hk2 h ih =>
    rw [ih ho (putS_0 hf ha ha), putS_1 hn h1 h2 ha ha]
    rw [show (k : Int) = ((k / 2 : Nat) : Int) + ((k / 2 : Nat) : Int) by omega, Zm.mk_add, Go.Fg.add_mul, CR.mul_add]
theorem mulM_1 (hm : Md m) {f : PS (PS (Zm m))} {n : Nat} (hn : 2 ≤ n) (hf : LawP f n) : (mulM f n).c 1 = 0 := by
  have hm1 := hm.1
  have h00 : (f.c 0).c 0 = 0 := by rw [hf.1 0 (by omega)]; rfl
  have h10 : (f.c 1).c 0 = 1 := by rw [hf.1 1 (by omega)]; rfl
  have h01 : (f.c 0).c 1 = 1 := by rw [hf.2.1 0 1 (by omega)]; exact h10
  rw [(mulM_ok f n).c1 hn h10 h01 h00 rfl rfl, Int.toNat_of_nonneg (by omega)]
  have : Zm.mk m m = 0 := Zm.val_eq_zero.1 (by rw [Zm.val_mk, Int.emod_self])
  rw [this, Go.Fg.zero_mul, Go.Fg.add_zero]; rfl
theorem rkT_ge2 {m : Int} {t : List (List Int)} (hk : rkC m t = 0) (ht : htC m t = 0) : 2 ≤ rkT m t := by
  obtain ⟨hp, hlw⟩ := lawB_pl (htC_0 ht).1
  obtain ⟨hm, h2, h3, _⟩ := plB_md hp
  have hne : rkT m t ≠ 0 := fun e => by
    unfold rkC at hk
    rw [if_pos ht, if_pos e] at hk
    omega
  have h0 := mulM_0 (by omega) hlw
  have h1 := mulM_1 hm h2 hlw
  unfold rkT rkM rkOf at hne ⊢
  cases e : (L t.length (mulM (rd2 m t) t.length)).findIdx? (fun x => decide (x ≠ 0)) with
  | none => rw [e] at hne; exact absurd rfl hne
  | some i =>
    obtain ⟨_, _, h5⟩ := rk_some e
    simp only
    rcases (show i = 0 ∨ i = 1 ∨ 2 ≤ i by omega) with rfl | rfl | h
    · exact absurd h0 h5
    · exact absurd h1 h5
    · exact h
end Go.Proofs

