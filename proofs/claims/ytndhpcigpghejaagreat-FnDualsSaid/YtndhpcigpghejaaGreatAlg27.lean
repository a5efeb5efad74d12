import Derived.Test.YtndhpcigpghejaaGreatAlg24
namespace Go.Fg
set_option linter.unusedVariables false
set_option linter.unusedSimpArgs false
set_option linter.unusedSectionVars false
namespace PS
section
variable {m : Int}
theorem kron5 {a b c d a' b' c' d' : Nat} (h1 : a ≤ 15) (h2 : b ≤ 15) (h3 : c ≤ 15) (k1 : a' ≤ 15) (k2 : b' ≤ 15) (k3 : c' ≤ 15) (e : a + 16 * b + 256 * c + 4096 * d = a' + 16 * b' + 256 * c' + 4096 * d') : a = a' ∧ b = b' ∧ c = c' ∧ d = d' := by
 have e1 : a = a' := by omega
 subst e1
 have e2 : b = b' := by omega
 subst e2
 have e3 : c = c' := by omega
 subst e3
 exact ⟨rfl, rfl, rfl, by omega⟩
section
variable {f : PS (PS (Zm m))} {n : Nat}
theorem gam_pent15 (L : Lw f n) (hn : n ≤ 15) {i j k l : Nat} (hi : 1 ≤ i) (hl : 1 ≤ l) (h : i + j + k + l = n) :
   gam f (n + 1) (i + j) k l * Zm.mk m (bin (i + j) i : Nat) + gam f (n + 1) i j (k + l) * Zm.mk m (bin (k + l) k : Nat) = gam f (n + 1) i (j + k) l * Zm.mk m (bin (j + k) j : Nat) := by
 have e := congrArg (fun s => s.c (i + 16 * j + 256 * k + 4096 * l)) (pentagon L.up (crv_0 (mono 1 1)) (crv_0 (mono 16 1)) (crv_0 (mono 256 1)) (crv_0 (mono 4096 1)))
 simp only [add_c, crv_1, Gm_up] at e
 rw [Gm_c (gam f (n + 1)) (p0 := i + j) (q0 := k) (k0 := l) (β := Zm.mk m (bin (i + j) i : Nat)) (by omega) (fun p' q' k' h' => ?_),
   Gm_c (gam f (n + 1)) (p0 := i) (q0 := j) (k0 := k + l) (β := Zm.mk m (bin (k + l) k : Nat)) (by omega) (fun p' q' k' h' => ?_),
   Gm_c0 (gam f (n + 1)) (fun p' q' k' h' => ?_),
   Gm_c (gam f (n + 1)) (p0 := i) (q0 := j + k) (k0 := l) (β := Zm.mk m (bin (j + k) j : Nat)) (by omega) (fun p' q' k' h' => ?_),
   Gm_c0 (gam f (n + 1)) (fun p' q' k' h' => ?_), CR.zero_add, Go.Fg.add_zero] at e
 · exact e
 · rw [mono3, mono_c, if_neg (by omega)]
 · rw [show Go.Fg.pw (mono 1 (1 : Zm m)) p' * (Go.Fg.pw (mono 16 1 + mono 256 1) q' * Go.Fg.pw (mono 4096 1) k') = Go.Fg.pw (mono 16 1 + mono 256 1) q' * (Go.Fg.pw (mono 1 1) p' * Go.Fg.pw (mono 4096 1) k') by ac_rfl,
     pw_two, pw_one', pw_one', mono_mul, Go.Fg.mul_one, two_c 16 256 q' (p' * 1 + k' * 4096) _ j (p' = i ∧ q' = j + k ∧ k' = l) (by omega) (fun x hx e => by have := kron5 (a := p') (b := x) (c := q' - x) (d := k') (a' := i) (b' := j) (c' := k) (d' := l) (by omega) (by omega) (by omega) (by omega) (by omega) (by omega) (by omega); omega)]
   split
   · rename_i e; rw [e.2.1]
   · rfl
 · rw [mono3, mono_c, if_neg (by omega)]
 · rw [show Go.Fg.pw (mono 1 (1 : Zm m)) p' * (Go.Fg.pw (mono 16 1) q' * Go.Fg.pw (mono 256 1 + mono 4096 1) k') = Go.Fg.pw (mono 256 1 + mono 4096 1) k' * (Go.Fg.pw (mono 1 1) p' * Go.Fg.pw (mono 16 1) q') by ac_rfl,
     pw_two, pw_one', pw_one', mono_mul, Go.Fg.mul_one, two_c 256 4096 k' (p' * 1 + q' * 16) _ k (p' = i ∧ q' = j ∧ k' = k + l) (by omega) (fun x hx e => by have := kron5 (a := p') (b := q') (c := x) (d := k' - x) (a' := i) (b' := j) (c' := k) (d' := l) (by omega) (by omega) (by omega) (by omega) (by omega) (by omega) (by omega); omega)]
   split
   · rename_i e; rw [e.2.2]
   · rfl
 · rw [pw_two, pw_one', pw_one', mono_mul, Go.Fg.mul_one, two_c 1 16 p' (q' * 256 + k' * 4096) _ i (p' = i + j ∧ q' = k ∧ k' = l) (by omega) (fun x hx e => by have := kron5 (a := x) (b := p' - x) (c := q') (d := k') (a' := i) (b' := j) (c' := k) (d' := l) (by omega) (by omega) (by omega) (by omega) (by omega) (by omega) (by omega); omega)]
   split
   · rename_i e; rw [e.1]
   · rfl
end
end
section
variable {R : Type} [CR R]
theorem fro_add {q : Nat} (hq : 1 ≤ q) (h : ∀ i, 0 < i → i < q → nc R (bin q i) = 0) (u v : R) : Go.Fg.pw (u + v) q = Go.Fg.pw u q + Go.Fg.pw v q := by
 obtain ⟨k, rfl⟩ : ∃ k, q = k + 1 := ⟨q - 1, by omega⟩
 rw [binom, sm_succ, sm_succ_left, sm_zero (fun i hi => by rw [h (i + 1) (by omega) (by omega), Go.Fg.zero_mul]), bin_self, bin_zero, nc_one, CR.one_mul, CR.one_mul, Nat.sub_self, pw_zero, pw_zero, CR.one_mul, Go.Fg.mul_one, Go.Fg.add_zero, Nat.sub_zero, CR.add_comm]
theorem fro_sm {q : Nat} (hq : 1 ≤ q) (h : ∀ i, 0 < i → i < q → nc R (bin q i) = 0) (k : Nat) (f : Nat → R) : Go.Fg.pw (sm k f) q = sm k fun i => Go.Fg.pw (f i) q := by
 induction k with
 | zero => exact zero_pw (by omega)
 | succ k ih => rw [sm_succ, sm_succ, fro_add hq h, ih]
def upc (a : PS R) : PS (PS R) := ⟨fun i => C (a.c i)⟩
theorem upc_c (a : PS R) (i : Nat) : (upc a).c i = C (a.c i) := rfl
theorem upc_mul (a b : PS R) : upc (a * b) = upc a * upc b := axX_mul a b
theorem upc_pw (a : PS R) (k : Nat) : upc (Go.Fg.pw a k) = Go.Fg.pw (upc a) k := (axX_pw a k).symm
theorem upc_sm (k : Nat) (u : Nat → PS R) : upc (sm k u) = sm k fun i => upc (u i) := axX_sm k u
theorem upc_C (r : R) : upc (C r) = C (C r) := PS.ext (fun i => by
 show C ((C r).c i) = _
 rw [C_c, C_c]
 split
 · rfl
 · exact C_zero)
theorem upc_X : upc (X : PS R) = X := PS.ext (fun i => by
 show C ((X : PS R).c i) = _
 rw [X_c, X_c]
 split
 · rfl
 · exact C_zero)
theorem upc_0 {a : PS R} (h : a.c 0 = 0) : (upc a).c 0 = 0 := by rw [upc_c, h, C_zero]
theorem upc_ag {N : Nat} {a b : PS R} (h : Ag N a b) : Ag N (upc a) (upc b) := fun i hi => by rw [upc_c, upc_c, h i hi]
theorem up_evT (N : Nat) (f : PS (PS R)) (a b : PS R) : evT N (up f) (upc a) (upc b) = upc (evT N f a b) := by
 unfold evT
 rw [upc_sm]
 refine sm_congr (fun i _ => ?_)
 rw [upc_sm]
 refine sm_congr (fun j _ => ?_)
 rw [upc_mul, upc_mul, upc_pw, upc_pw, upc_C, up_cc]
theorem LwN.up {f : PS (PS R)} {N : Nat} (L : LwN f N) : LwN (up f) N where
 pos := L.pos
 z0 := by rw [up_cc, L.z0, C_zero]
 z1 := by rw [up_cc, L.z1]; rfl
 zz i h1 h2 := by rw [up_cc, L.zz i h1 h2, C_zero]
 sym i j h := by rw [up_cc, up_cc, L.sym i j h]
 as p q k h := by
   have e := congrArg C (L.as p q k h)
   rw [C_sm, C_sm] at e
   refine Eq.trans (sm_congr (fun i _ => ?_)) (e.trans (sm_congr (fun i _ => ?_)))
   · rw [up_pw, ← C_mul_C]; rfl
   · rw [up_pw, ← C_mul_C]; rfl
theorem nm_up {f : PS (PS R)} {N : Nat} (L : LwN f N) (a : Cv R N) : ∀ k, L.up.G.nm k (cv N (upc a.1)) = cv N (upc (L.G.nm k a).1)
 | 0 => by
   show cv N 0 = cv N (upc (cv N (0 : PS R)).1)
   refine cv_of (fun i hi => ?_)
   rw [upc_c, cv_ag (a := (0 : PS R)) rfl i hi, zero_c, zero_c, C_zero]
 | k + 1 => by
   show L.up.G.ad (L.up.G.nm k (cv N (upc a.1))) (cv N (upc a.1)) = cv N (upc (L.G.ad (L.G.nm k a) a).1)
   rw [nm_up L a k, L.up.ad_cv (upc_0 (L.G.nm k a).2.1) (upc_0 a.2.1), up_evT]
   exact cv_of (upc_ag (cv_ag (L.e0 (L.G.nm k a).2.1 a.2.1)).symm)
theorem rank_bin {f : PS (PS R)} {N : Nat} (L : LwN f N) {r : PS R} {M q : Nat} (hr0 : r.c 0 = 0) (hr : cv N r = L.G.nm M (cv N X)) (hq : 1 ≤ q ∧ q < N) (hl : ∀ i, i < q → r.c i = 0) {i : Nat} (hi : 0 < i ∧ i < q) :
   r.c q * nc R (bin q i) = 0 := by
 have c20 : (mono 1 (X : PS R) : PS (PS R)).c 0 = 0 := rfl
 have X0 : (X : PS (PS R)).c 0 = 0 := rfl
 have hX : cv N (upc (cv N (X : PS R)).1) = cv N (X : PS (PS R)) := cv_of ((upc_ag (cv_ag X_0)).trans (Ag.of_eq upc_X))
 have hN : L.up.G.nm M (cv N (X : PS (PS R))) = cv N (upc r) := by
   rw [← hX, nm_up L (cv N X) M, ← hr]
   exact cv_of (upc_ag (cv_ag hr0))
 have w0 := L.up.e0 X0 c20
 have h1 : L.up.G.nm M (cv N (evT N (up f) X (mono 1 X))) = cv N (comp (upc r) (evT N (up f) X (mono 1 X))) := by
   rw [← sb_X w0, ← L.up.sb_nm w0, hN, sb_cv (upc_0 hr0)]
 have h2 : L.up.G.nm M (cv N (mono 1 (X : PS R))) = cv N (comp (upc r) (mono 1 X)) := by
   rw [← sb_X c20, ← L.up.sb_nm c20, hN, sb_cv (upc_0 hr0)]
 have h3 : cv N (comp (upc r) (evT N (up f) X (mono 1 X))) = cv N (evT N (up f) (upc r) (comp (upc r) (mono 1 X))) := by
   rw [← h1, ← L.up.ad_cv X0 c20, L.up.G.nm_ad, hN, h2, L.up.ad_cv (upc_0 hr0) (sb_0 (upc_0 hr0))]
 have h4 := (cv_eq (sb_0 (upc_0 hr0)) (L.up.e0 (upc_0 hr0) (sb_0 (upc_0 hr0)))).1 h3 q hq.2
 have lowc : ∀ (w : PS (PS R)), w.c 0 = 0 → ∀ j, j ≤ q → (comp (upc r) w).c j = if j = q then C (r.c q) * Go.Fg.pw (w.c 1) q else 0 := fun w hw j hj => by
   rw [← compN_ag hw (q + 1) j (by omega)]
   unfold compN
   rw [sm_c, sm_one q (by omega) (fun k hk hne => by rw [C_mul, Nat.zero_add, upc_c, hl k (by omega), C_zero, Go.Fg.zero_mul]), C_mul, Nat.zero_add, upc_c]
   by_cases e : j = q
   · rw [if_pos e, e, pw_lead hw]
   · rw [if_neg e, pw_low hw q j (by omega), Go.Fg.mul_zero]
 obtain ⟨k, rfl⟩ : ∃ k, q = k + 1 := ⟨q - 1, by omega⟩
 rw [lowc _ w0 (k + 1) (by omega), if_pos rfl, L.up.lead (upc_0 hr0) (sb_0 (upc_0 hr0)) hq.2 (fun j hj => by rw [lowc _ c20 j (by omega), if_neg (by omega)]) (k + 1) (by omega), add_c, lowc _ c20 (k + 1) (by omega), if_pos rfl, upc_c] at h4
 have w1 : (evT N (up f) X (mono 1 (X : PS R))).c 1 = X + 1 := by
   rw [L.up.lead X0 c20 (k := 0) (by have := L.pos; omega) (fun j hj => by rw [show j = 0 by omega]; rfl) 1 (by omega), add_c, CR.add_comm]; rfl
 rw [w1] at h4
 have h5 := congrArg (fun z : PS R => z.c i) h4
 simp only [add_c] at h5
 have e1 : (C (r.c (k + 1)) * Go.Fg.pw (X + 1 : PS R) (k + 1)).c i = r.c (k + 1) * nc R (bin (k + 1) i) := by
   rw [C_mul, binom, sm_c]
   congr 1
   rw [sm_one i (by omega) (fun a ha hne => by
     rw [nc_C, C_mul, one_pw, Go.Fg.mul_one]
     show _ * (Go.Fg.pw (mono 1 1 : PS R) a).c i = 0
     rw [pw_mono, one_pw, mono_c, if_neg (by omega), Go.Fg.mul_zero]), nc_C, C_mul, one_pw, Go.Fg.mul_one]
   show _ * (Go.Fg.pw (mono 1 1 : PS R) i).c i = _
   rw [pw_mono, one_pw, mono_c, if_pos (by omega), Go.Fg.mul_one]
 have e2 : (C (r.c (k + 1))).c i = 0 := by rw [C_c, if_neg (by omega)]
 have e3 : (C (r.c (k + 1)) * Go.Fg.pw ((mono 1 (X : PS R) : PS (PS R)).c 1) (k + 1)).c i = 0 := by
   rw [C_mul]
   show _ * (Go.Fg.pw (mono 1 1 : PS R) (k + 1)).c i = 0
   rw [pw_mono, one_pw, mono_c, if_neg (by omega), Go.Fg.mul_zero]
 rw [e1, e2, e3, CR.zero_add] at h5
 exact h5
end
end PS
end Go.Fg
namespace Go.Fg
set_option linter.unusedVariables false
set_option linter.unusedSimpArgs false
set_option linter.unusedSectionVars false
namespace PS
section
variable {m : Int}
theorem AgS.pw {q : Nat} {f g : PS (PS (Zm m))} (h : AgS q f g) : ∀ k, AgS q (Go.Fg.pw f k) (Go.Fg.pw g k)
 | 0 => AgS.rfl
 | k + 1 => (AgS.pw h k).mul h
theorem AgS.sm {q k : Nat} {f g : Nat → PS (PS (Zm m))} (h : ∀ i, i < k → AgS q (f i) (g i)) : AgS q (Go.Fg.sm k f) (Go.Fg.sm k g) := fun i j hi hj => by
 rw [sm_c, sm_c, sm_c, sm_c]
 exact sm_congr (fun a ha => h a ha i j hi hj)
theorem AgS.sm_drop {q n k : Nat} {f : Nat → PS (PS (Zm m))} (hk : n ≤ k) (h : ∀ i, n ≤ i → i < k → AgS q (f i) 0) : AgS q (Go.Fg.sm k f) (Go.Fg.sm n f) := fun i j hi hj => by
 rw [sm_c, sm_c, sm_c, sm_c]
 exact sm_ext hk (fun a h1 h2 => by rw [h a h1 h2 i j hi hj]; rfl)
theorem pw_rank {f : PS (PS (Zm m))} (f0 : (f.c 0).c 0 = 0) {q : Nat} (hq : 1 ≤ q) (h : ∀ i, 0 < i → i < q → nc (Zm m) (bin q i) = 0) : AgS q (Go.Fg.pw f q) 0 := by
 have e : AgS q f (Go.Fg.sm q fun i => mono i (f.c i)) := fun i j hi hj => by
   rw [sm_c, sm_one i hi (fun a _ hne => by rw [mono_c, if_neg (Ne.symm hne)]), mono_c, if_pos rfl]
 refine (AgS.pw e q).trans ?_
 have hb : ∀ i, 0 < i → i < q → nc (PS (PS (Zm m))) (bin q i) = 0 := fun i h1 h2 => by rw [nc_C, nc_C, h i h1 h2, C_zero, C_zero]
 rw [fro_sm hq hb]
 intro i j hi hj
 rw [sm_c, sm_one 0 (by omega) (fun a _ hne => by
   rw [pw_mono, mono_c, if_neg (by
     intro e2
     have : q * 1 ≤ q * a := Nat.mul_le_mul (Nat.le_refl q) (by omega)
     omega)]), pw_mono, mono_c, Nat.mul_zero]
 split
 · rw [pw_low f0 q j hj]; rfl
 · rfl
theorem pw_over {f : PS (PS (Zm m))} {q : Nat} (h : AgS q (Go.Fg.pw f q) 0) {k : Nat} (hk : q ≤ k) : AgS q (Go.Fg.pw f k) 0 := by
 rw [show k = q + (k - q) by omega, pw_add]
 exact (h.mul AgS.rfl).trans (AgS.of_eq (Go.Fg.zero_mul _))
theorem sm_both {A q : Nat} {g : Nat → Zm m} (h1 : ∀ k, A ≤ k → g k = 0) (h2 : ∀ k, q ≤ k → g k = 0) : Go.Fg.sm A g = Go.Fg.sm q g := by
 rcases Nat.le_total A q with h | h
 · exact (sm_ext h (fun k a _ => h1 k a)).symm
 · exact sm_ext h (fun k a _ => h2 k a)
def asA (f : PS (PS (Zm m))) (q n i j l : Nat) : Zm m := Go.Fg.sm q fun k => ((Go.Fg.pw f n).c k).c l * ((Go.Fg.pw f k).c i).c j
def asB (f : PS (PS (Zm m))) (q n i j l : Nat) : Zm m := Go.Fg.sm q fun k => ((Go.Fg.pw f n).c i).c k * ((Go.Fg.pw f k).c j).c l
theorem as_sq {f : PS (PS (Zm m))} {N : Nat} (L : LwN f N) {q : Nat} (hv : ∀ k, q ≤ k → AgS q (Go.Fg.pw f k) 0) {i j l : Nat} (hi : i < q) (hj : j < q) (hl : l < q) (hs : i + j + l < N) : asA f q 1 i j l = asB f q 1 i j l := by
 have h := L.as i j l hs
 rw [sm_both (A := N - l) (q := q) (fun k hk => by rw [pw_low2 L.z0 k i j (by omega), Go.Fg.mul_zero]) (fun k hk => by rw [hv k hk i j hi hj]; exact Go.Fg.mul_zero _),
   sm_both (A := N - i) (q := q) (fun k hk => by rw [pw_low2 L.z0 k j l (by omega), Go.Fg.mul_zero]) (fun k hk => by rw [hv k hk j l hj hl]; exact Go.Fg.mul_zero _)] at h
 unfold asA asB
 rw [pw_one]
 exact h
theorem gam_sq {f : PS (PS (Zm m))} {K q : Nat} (hK : q ≤ K) (hv : ∀ k, q ≤ k → AgS q (Go.Fg.pw f k) 0) {i j l : Nat} (hi : i < q) (hj : j < q) (hl : l < q) (h : gam f K i j l = 0) : asA f q 1 i j l = asB f q 1 i j l := by
 unfold gam at h
 have h := sub_eq_zero.1 h
 rw [sm_ext hK (fun k h1 _ => by rw [hv k h1 i j hi hj]; exact Go.Fg.mul_zero _), sm_ext hK (fun k h1 _ => by rw [hv k h1 j l hj hl]; exact Go.Fg.mul_zero _)] at h
 unfold asA asB
 rw [pw_one]
 exact h
theorem gam_iff {f : PS (PS (Zm m))} (f0 : (f.c 0).c 0 = 0) {K N p q k : Nat} (hs : p + q + k < N) (hK : N ≤ K) : gam f K p q k = 0 ↔ Go.Fg.sm (N - k) (fun i => (f.c i).c k * ((Go.Fg.pw f i).c p).c q) = Go.Fg.sm (N - p) (fun j => (f.c p).c j * ((Go.Fg.pw f j).c q).c k) := by
 unfold gam
 rw [sub_eq_zero, sm_ext (show N - k ≤ K by omega) (fun i h1 _ => by rw [pw_low2 f0 i p q (by omega), Go.Fg.mul_zero]), sm_ext (show N - p ≤ K by omega) (fun j h1 _ => by rw [pw_low2 f0 j q k (by omega), Go.Fg.mul_zero])]
theorem LwN.low {f : PS (PS (Zm m))} {N : Nat} (L : LwN f N) : Lw (lowP f N) N := by
 have hN := L.pos
 have e : ∀ i j, i + j < N → ((lowP f N).c i).c j = (f.c i).c j := fun i j h => by rw [lowP_cc, if_pos h]
 refine ⟨by omega, by rw [e 0 0 (by omega), L.z0], by rw [e 1 0 (by omega), L.z1], fun i h1 h2 => ?_, fun i j h => ?_, fun p q k h => ?_⟩
 · rw [lowP_cc]
   split
   · exact L.zz i (by omega) h2
   · rfl
 · rw [lowP_cc, lowP_cc]
   by_cases h1 : i + j < N
   · rw [if_pos h1, if_pos (by omega), L.sym i j h1]
   · rw [if_neg h1, if_neg (by omega)]
 · rw [gam_congr (f := lowP f N) (g := f) (n := N) (by rw [e 0 0 (by omega), L.z0]) L.z0 (fun i j h => e i j h) h]
   exact (gam_iff L.z0 h (by omega)).2 (L.as p q k h)
theorem LwN.ext {f : PS (PS (Zm m))} {N : Nat} (L : LwN f N) (hN : N ≤ 10) : ∃ g, LwN g (N + 1) ∧ Ag2 N g f := by
 have h2 := L.pos
 obtain ⟨v, v0, hv⟩ := bud_ex L.low ⟨h2, hN⟩
 have T := L.low.top h2 v0 hv.1
 have hg := (bud_iff L.low ⟨h2, hN⟩ v0 hv.1).2 hv
 refine ⟨topAdd (lowP f N) N v, ⟨by omega, T.z0, T.z1, T.zz, T.sym, fun p q k h => (gam_iff T.z0 h (by omega)).1 (hg p q k h)⟩, fun i j h => ?_⟩
 rw [topAdd_low _ _ h, lowP_cc, if_pos h]
theorem LwN.ext11 {f : PS (PS (Zm m))} : ∀ (d N : Nat), N + d = 11 → LwN f N → ∃ g, LwN g 11 ∧ Ag2 N g f
 | 0, N, h, L => by rw [Nat.add_zero] at h; subst h; exact ⟨f, L, Ag2.rfl⟩
 | d + 1, N, h, L => by
   obtain ⟨g, Lg, hg⟩ := L.ext (by omega)
   obtain ⟨g', Lg', hg'⟩ := LwN.ext11 d (N + 1) (by omega) Lg
   exact ⟨g', Lg', (hg'.le (by omega)).trans hg⟩
theorem mul_cc (g h : PS (PS (Zm m))) (i j : Nat) : ((g * h).c i).c j = Go.Fg.sm (i + 1) fun a => Go.Fg.sm (j + 1) fun b => (g.c a).c b * (h.c (i - a)).c (j - b) := by
 rw [mul_c, sm_c]
 exact sm_congr (fun a _ => mul_c _ _ _)
def trP (g : PS (PS (Zm m))) : PS (PS (Zm m)) := pl fun i j => (g.c j).c i
theorem trP_mul (g h : PS (PS (Zm m))) : trP (g * h) = trP g * trP h := ext2 (fun i j => by
 show ((g * h).c j).c i = _
 rw [mul_cc, mul_cc, sm_swap]
 rfl)
theorem trP_one : trP (1 : PS (PS (Zm m))) = 1 := ext2 (fun i j => by
 show ((1 : PS (PS (Zm m))).c j).c i = _
 rw [one_c, one_c]
 by_cases h1 : i = 0
 · by_cases h2 : j = 0
   · rw [if_pos h1, if_pos h2, h1, h2]
   · rw [if_pos h1, if_neg h2, one_c, if_neg h2]; rfl
 · by_cases h2 : j = 0
   · rw [if_neg h1, if_pos h2, one_c, if_neg h1]; rfl
   · rw [if_neg h1, if_neg h2]; rfl)
theorem trP_pw (g : PS (PS (Zm m))) : ∀ k, trP (Go.Fg.pw g k) = Go.Fg.pw (trP g) k
 | 0 => trP_one
 | k + 1 => by rw [pw_succ, pw_succ, trP_mul, trP_pw g k]
theorem pw_sym {g : PS (PS (Zm m))} (h : ∀ i j, (g.c i).c j = (g.c j).c i) (k i j : Nat) : ((Go.Fg.pw g k).c i).c j = ((Go.Fg.pw g k).c j).c i := by
 have e : trP g = g := ext2 (fun i j => (h i j).symm)
 have := trP_pw g k
 rw [e] at this
 conv => lhs; rw [← this]
 rfl
theorem gam_antiX {g : PS (PS (Zm m))} (h : ∀ i j, (g.c i).c j = (g.c j).c i) (K p q k : Nat) : gam g K p q k + gam g K k q p = 0 := by
 unfold gam
 have e1 : Go.Fg.sm K (fun i => (g.c i).c p * ((Go.Fg.pw g i).c k).c q) = Go.Fg.sm K (fun j => (g.c p).c j * ((Go.Fg.pw g j).c q).c k) := sm_congr (fun i _ => by rw [h i p, pw_sym h i k q])
 have e2 : Go.Fg.sm K (fun j => (g.c k).c j * ((Go.Fg.pw g j).c q).c p) = Go.Fg.sm K (fun i => (g.c i).c k * ((Go.Fg.pw g i).c p).c q) := sm_congr (fun i _ => by rw [h k i, pw_sym h i q p])
 rw [e1, e2]
 generalize Go.Fg.sm K (fun i => (g.c i).c k * ((Go.Fg.pw g i).c p).c q) = x
 generalize Go.Fg.sm K (fun j => (g.c p).c j * ((Go.Fg.pw g j).c q).c k) = y
 rw [Go.Fg.sub_def, Go.Fg.sub_def, CR.add_assoc, ← CR.add_assoc (-y), CR.neg_add, CR.zero_add, Go.Fg.add_neg]
theorem nc5 (h : nc (Zm m) 5 = 0) (k r : Nat) : nc (Zm m) (5 * k + r) = nc (Zm m) r := by
 rw [nc_mk] at h ⊢
 rw [nc_mk, show ((5 * k + r : Nat) : Int) = (5 : Nat) * (k : Int) + r by omega, Zm.mk_add, Zm.mk_mul, h, Go.Fg.zero_mul, CR.zero_add]
theorem half5 (h : nc (Zm m) 5 = 0) {x : Zm m} (hx : x + x = 0) : x = 0 := by
 have e : nc (Zm m) 6 * x = x := by
   have := nc5 h 1 1
   rw [show 5 * 1 + 1 = 6 from rfl, nc_one] at this
   rw [this, CR.one_mul]
 have e2 : nc (Zm m) 6 * x = nc (Zm m) 3 * (x + x) := by
   rw [show (6 : Nat) = 3 + 3 from rfl, nc_add, Go.Fg.add_mul, CR.mul_add]
 rw [← e, e2, hx, Go.Fg.mul_zero]
theorem kernel_as1 (hm : 2 ≤ m) {f : PS (PS (Zm m))} {N q : Nat} (L : LwN f N) (hq : 2 ≤ q ∧ 2 * q ≤ N + 1 ∧ N ≤ 11) (hb : ∀ i, 0 < i → i < q → nc (Zm m) (bin q i) = 0)
   {i j l : Nat} (hi : i < q) (hj : j < q) (hl : l < q) : asA f q 1 i j l = asB f q 1 i j l := by
 obtain ⟨g', Lg', hg'⟩ := LwN.ext11 (11 - N) N (by omega) L
 have Lw1 := Lg'.low
 have e : ∀ i j, i + j < 11 → ((lowP g' 11).c i).c j = (g'.c i).c j := fun i j h => by rw [lowP_cc, if_pos h]
 have Lg : LwN (lowP g' 11) 11 := ⟨by omega, Lw1.z0, Lw1.z1, fun i h => Lw1.zz i (by omega), fun i j h => Lw1.sym i j (by omega), fun p q k h => (gam_iff Lw1.z0 h (show 11 ≤ 12 by omega)).1 (Lw1.as p q k h)⟩
 have hs : ∀ i j, ((lowP g' 11).c i).c j = ((lowP g' 11).c j).c i := fun i j => by
   by_cases h : i + j < 12
   · exact Lw1.sym i j h
   · rw [lowP_cc, lowP_cc, if_neg (by omega), if_neg (by omega)]
 have hfg : AgS q f (lowP g' 11) := fun a b ha hb => by rw [e a b (by omega), hg' a b (by omega)]
 generalize hG : lowP g' 11 = G at *
 have hv0 := pw_rank Lg.z0 (q := q) (by omega) hb
 have hv : ∀ k, q ≤ k → AgS q (Go.Fg.pw G k) 0 := fun k hk => pw_over hv0 hk
 have key : asA G q 1 i j l = asB G q 1 i j l := by
   by_cases hsum : i + j + l < 11
   · exact as_sq Lg hv hi hj hl hsum
   · have h6 : q ≠ 6 := fun h => by
       subst h
       have h1 : nc (Zm m) 6 = 0 := hb 1 (by omega) (by omega)
       have h2 : nc (Zm m) 15 = 0 := hb 2 (by omega) (by omega)
       have h3 : nc (Zm m) 20 = 0 := hb 3 (by omega) (by omega)
       have h4 : nc (Zm m) 6 + nc (Zm m) 15 = nc (Zm m) 20 + nc (Zm m) 1 := by rw [← nc_add, ← nc_add]
       rw [h1, h2, h3, CR.zero_add, CR.zero_add, nc_one] at h4
       have := congrArg Zm.val h4
       rw [Zm.val_zero, Zm.val_one (by omega)] at this
       omega
     have h5 : q = 5 := by omega
     subst h5
     have c5 : nc (Zm m) 5 = 0 := hb 1 (by omega) (by omega)
     refine gam_sq (K := 12) (by omega) hv hi hj hl ?_
     have anti := gam_antiX hs 12
     have g434 : gam G 12 4 3 4 = 0 := half5 c5 (anti 4 3 4)
     have g444 : gam G 12 4 4 4 = 0 := half5 c5 (anti 4 4 4)
     have g443 : gam G 12 4 4 3 = 0 := by
       have := gam_pent15 Lw1 (by omega) (i := 2) (j := 2) (k := 4) (l := 3) (by omega) (by omega) (by omega)
       rw [show bin (2 + 2) 2 = 5 * 1 + 1 from rfl, show bin (4 + 3) 4 = 5 * 7 + 0 from rfl, show bin (2 + 4) 2 = 5 * 3 + 0 from rfl, ← nc_mk, ← nc_mk, ← nc_mk, nc5 c5, nc5 c5, nc5 c5] at this
       have z : nc (Zm m) 0 = 0 := rfl
       rw [z, nc_one, Go.Fg.mul_one, Go.Fg.mul_zero, Go.Fg.mul_zero, Go.Fg.add_zero] at this
       exact this
     have g344 : gam G 12 3 4 4 = 0 := by
       have := anti 3 4 4
       rwa [g443, Go.Fg.add_zero] at this
     have hc : (i = 4 ∧ j = 4 ∧ l = 3) ∨ (i = 4 ∧ j = 3 ∧ l = 4) ∨ (i = 3 ∧ j = 4 ∧ l = 4) ∨ (i = 4 ∧ j = 4 ∧ l = 4) := by omega
     rcases hc with ⟨rfl, rfl, rfl⟩ | ⟨rfl, rfl, rfl⟩ | ⟨rfl, rfl, rfl⟩ | ⟨rfl, rfl, rfl⟩
     · exact g443
     · exact g434
     · exact g344
     · exact g444
 unfold asA asB at key ⊢
 rw [sm_congr (fun k hk => by rw [(AgS.pw hfg 1) k l hk hl, (AgS.pw hfg k) i j hi hj]), key]
 exact sm_congr (fun k hk => by rw [(AgS.pw hfg 1) i k hi hk, (AgS.pw hfg k) j l hj hl])
def clS (g : PS (PS (Zm m))) (l : Nat) : PS (Zm m) := ⟨fun i => (g.c i).c l⟩
theorem clS_mul (g h : PS (PS (Zm m))) (l : Nat) : clS (g * h) l = Go.Fg.sm (l + 1) fun a => clS g a * clS h (l - a) := PS.ext (fun i => by
 show ((g * h).c i).c l = _
 rw [mul_cc, sm_c, sm_swap]
 exact sm_congr (fun a _ => by rw [mul_c]; rfl))
theorem comp2N_mulS {f : PS (PS (Zm m))} {q : Nat} (hv : ∀ k, q ≤ k → AgS q (Go.Fg.pw f k) 0) (a b : PS (Zm m)) : AgS q (comp2N (a * b) f 0 q) (comp2N a f 0 q * comp2N b f 0 q) := by
 cases q with
 | zero => exact fun i j hi => absurd hi (by omega)
 | succ n =>
   have e1 : comp2N (a * b) f 0 (n + 1) = Go.Fg.sm (n + 1) fun i => Go.Fg.sm (n - i + 1) fun j => C (C (a.c i * b.c j)) * Go.Fg.pw f (i + j) := by
     rw [← sm_tri]
     unfold comp2N
     refine sm_congr (fun k hk => ?_)
     rw [Nat.zero_add, mul_c, C_sm, C_sm, sm_mul_right]
     exact sm_congr (fun i hi => by rw [show i + (k - i) = k by omega])
   have e2 : comp2N a f 0 (n + 1) * comp2N b f 0 (n + 1) = Go.Fg.sm (n + 1) fun i => Go.Fg.sm (n + 1) fun j => C (C (a.c i * b.c j)) * Go.Fg.pw f (i + j) := by
     unfold comp2N
     rw [sm_mul_right]
     refine sm_congr (fun i _ => ?_)
     rw [sm_mul]
     refine sm_congr (fun j _ => ?_)
     rw [Nat.zero_add, Nat.zero_add, ← C_mul_C, ← C_mul_C, pw_add]
     ac_rfl
   rw [e1, e2]
   refine AgS.sm (fun i hi => (AgS.sm_drop (by omega) (fun j h1 h2 => ?_)).symm)
   exact (AgS.mul AgS.rfl (hv (i + j) (by omega))).trans (AgS.of_eq (Go.Fg.mul_zero _))
theorem asA_eq (f : PS (PS (Zm m))) (q n i j l : Nat) : asA f q n i j l = ((comp2N (clS (Go.Fg.pw f n) l) f 0 q).c i).c j := by
 unfold asA comp2N
 rw [sm_c, sm_c]
 exact sm_congr (fun k _ => by rw [CC_cc, Nat.zero_add]; rfl)
theorem asB_eq (f : PS (PS (Zm m))) (q n i j l : Nat) : asB f q n i j l = ((comp2N ((Go.Fg.pw f n).c i) f 0 q).c j).c l := by
 unfold asB comp2N
 rw [sm_c, sm_c]
 exact sm_congr (fun k _ => by rw [CC_cc, Nat.zero_add])
theorem kernel_asN {f : PS (PS (Zm m))} {q : Nat} (hv : ∀ k, q ≤ k → AgS q (Go.Fg.pw f k) 0) (h1 : ∀ i j l, i < q → j < q → l < q → asA f q 1 i j l = asB f q 1 i j l) :
   ∀ n i j l, i < q → j < q → l < q → asA f q n i j l = asB f q n i j l
 | 0, i, j, l, hi, hj, hl => by
   unfold asA asB
   rw [sm_one 0 (by omega) (fun k hk hne => by rw [pw_zero, one_c, if_neg hne]; exact Go.Fg.zero_mul _), sm_one 0 (by omega) (fun k hk hne => by
     rw [pw_zero, one_c]
     split
     · rw [one_c, if_neg hne, Go.Fg.zero_mul]
     · exact Go.Fg.zero_mul _), pw_zero]
   have e : ∀ a b, ((1 : PS (PS (Zm m))).c a).c b = if a = 0 ∧ b = 0 then 1 else 0 := fun a b => by
     rw [one_c]
     by_cases h : a = 0
     · rw [if_pos h, one_c]
       by_cases h2 : b = 0
       · rw [if_pos h2, if_pos ⟨h, h2⟩]
       · rw [if_neg h2, if_neg (fun x => h2 x.2)]
     · rw [if_neg h, if_neg (fun x => h x.1)]; rfl
   rw [e, e, e, e]
   by_cases a : i = 0 <;> by_cases b : j = 0 <;> by_cases c : l = 0 <;> simp [a, b, c, CR.one_mul, Go.Fg.mul_one, Go.Fg.mul_zero, Go.Fg.zero_mul]
 | n + 1, i, j, l, hi, hj, hl => by
   have ih := kernel_asN hv h1 n
   have hA : asA f q (n + 1) i j l = Go.Fg.sm (l + 1) fun c => Go.Fg.sm (i + 1) fun a => Go.Fg.sm (j + 1) fun b => asA f q n a b c * asA f q 1 (i - a) (j - b) (l - c) := by
     rw [asA_eq, pw_succ, clS_mul, comp2N_sm, sm_c, sm_c]
     refine sm_congr (fun c hc => ?_)
     rw [comp2N_mulS hv _ _ i j hi hj, mul_cc]
     refine sm_congr (fun a ha => sm_congr (fun b hb => ?_))
     rw [asA_eq, asA_eq, pw_one]
   have hB : asB f q (n + 1) i j l = Go.Fg.sm (i + 1) fun a => Go.Fg.sm (j + 1) fun b => Go.Fg.sm (l + 1) fun c => asB f q n a b c * asB f q 1 (i - a) (j - b) (l - c) := by
     rw [asB_eq, pw_succ, mul_c, comp2N_sm, sm_c, sm_c]
     refine sm_congr (fun a ha => ?_)
     rw [comp2N_mulS hv _ _ j l hj hl, mul_cc]
     refine sm_congr (fun b hb => sm_congr (fun c hc => ?_))
     rw [asB_eq, asB_eq, pw_one]
   rw [hA, hB, sm_swap]
   refine sm_congr (fun a ha => ?_)
   rw [sm_swap]
   refine sm_congr (fun b hb => sm_congr (fun c hc => ?_))
   rw [ih a b c (by omega) (by omega) (by omega), h1 (i - a) (j - b) (l - c) (by omega) (by omega) (by omega)]
def duQ (f : PS (PS (Zm m))) (q : Nat) (a b : PS (Zm m)) : PS (Zm m) := ⟨fun n => Go.Fg.sm q fun i => Go.Fg.sm q fun j => a.c i * b.c j * ((Go.Fg.pw f n).c i).c j⟩
theorem duQ_c (f : PS (PS (Zm m))) (q : Nat) (a b : PS (Zm m)) (n : Nat) : (duQ f q a b).c n = Go.Fg.sm q fun i => Go.Fg.sm q fun j => a.c i * b.c j * ((Go.Fg.pw f n).c i).c j := rfl
theorem duQ_congr {f : PS (PS (Zm m))} {q : Nat} {a b a' b' : PS (Zm m)} (h1 : Ag q a a') (h2 : Ag q b b') : duQ f q a b = duQ f q a' b' := PS.ext (fun n => by
 rw [duQ_c, duQ_c]
 exact sm_congr (fun i hi => sm_congr (fun j hj => by rw [h1 i hi, h2 j hj])))
theorem duQ_assoc {f : PS (PS (Zm m))} {q : Nat} (h : ∀ n i j l, i < q → j < q → l < q → asA f q n i j l = asB f q n i j l) (a b c : PS (Zm m)) : duQ f q (duQ f q a b) c = duQ f q a (duQ f q b c) := PS.ext (fun n => by
 have e1 : (duQ f q (duQ f q a b) c).c n = Go.Fg.sm q fun i => Go.Fg.sm q fun j => Go.Fg.sm q fun l => a.c i * b.c j * c.c l * asA f q n i j l := by
   rw [duQ_c]
   have : ∀ k l, (duQ f q a b).c k * c.c l * ((Go.Fg.pw f n).c k).c l = Go.Fg.sm q fun i => Go.Fg.sm q fun j => a.c i * b.c j * c.c l * (((Go.Fg.pw f n).c k).c l * ((Go.Fg.pw f k).c i).c j) := fun k l => by
     rw [duQ_c, sm_mul_right, sm_mul_right]
     refine sm_congr (fun i _ => ?_)
     rw [sm_mul_right, sm_mul_right]
     exact sm_congr (fun j _ => by ac_rfl)
   rw [sm_congr (fun k _ => sm_congr (fun l _ => this k l))]
   rw [sm_congr (fun k _ => sm_swap q q _), sm_swap q q]
   refine sm_congr (fun i _ => ?_)
   rw [sm_congr (fun k _ => sm_swap q q _), sm_swap q q]
   refine sm_congr (fun j _ => ?_)
   rw [sm_swap q q]
   refine sm_congr (fun l _ => ?_)
   unfold asA
   rw [sm_mul]
 have e2 : (duQ f q a (duQ f q b c)).c n = Go.Fg.sm q fun i => Go.Fg.sm q fun j => Go.Fg.sm q fun l => a.c i * b.c j * c.c l * asB f q n i j l := by
   rw [duQ_c]
   refine sm_congr (fun i _ => ?_)
   have : ∀ k, a.c i * (duQ f q b c).c k * ((Go.Fg.pw f n).c i).c k = Go.Fg.sm q fun j => Go.Fg.sm q fun l => a.c i * b.c j * c.c l * (((Go.Fg.pw f n).c i).c k * ((Go.Fg.pw f k).c j).c l) := fun k => by
     rw [duQ_c, sm_mul, sm_mul_right]
     refine sm_congr (fun j _ => ?_)
     rw [sm_mul, sm_mul_right]
     exact sm_congr (fun l _ => by ac_rfl)
   rw [sm_congr (fun k _ => this k), sm_swap q q]
   refine sm_congr (fun j _ => ?_)
   rw [sm_swap q q]
   refine sm_congr (fun l _ => ?_)
   unfold asB
   rw [sm_mul]
 rw [e1, e2]
 exact sm_congr (fun i hi => sm_congr (fun j hj => sm_congr (fun l hl => by rw [h n i j l hi hj hl])))
)
theorem duQ_comm {f : PS (PS (Zm m))} {q : Nat} (h : ∀ i j, i < q → j < q → (f.c i).c j = (f.c j).c i) (a b : PS (Zm m)) : duQ f q a b = duQ f q b a := PS.ext (fun n => by
 have hs : ∀ i j, i < q → j < q → ((Go.Fg.pw f n).c i).c j = ((Go.Fg.pw f n).c j).c i := fun i j hi hj => by
   have e : AgS q (trP f) f := fun i j hi hj => h j i hj hi
   have := (AgS.pw e n) j i hj hi
   rw [← trP_pw] at this
   exact this
 rw [duQ_c, duQ_c, sm_swap]
 refine sm_congr (fun j hj => sm_congr (fun i hi => ?_))
 rw [hs i j hi hj, CR.mul_comm (a.c i)])
theorem duQ_one {f : PS (PS (Zm m))} {N q : Nat} (L : LwN f N) (hq : 1 ≤ q ∧ q ≤ N) (b : PS (Zm m)) : Ag q (duQ f q 1 b) b := fun n hn => by
 rw [duQ_c, sm_one 0 (by omega) (fun i _ hne => sm_zero (fun j _ => by rw [one_c, if_neg hne, Go.Fg.zero_mul, Go.Fg.zero_mul])),
   sm_one n hn (fun j hj hne => by rw [pw_row, (X_0c L).pw n j (by omega), pw_X, mono_c, if_neg hne, Go.Fg.mul_zero]), one_c, if_pos rfl, CR.one_mul, pw_row, (X_0c L).pw n n (by omega), pw_X, mono_c, if_pos rfl, Go.Fg.mul_one]
theorem dual_assoc (hm : 2 ≤ m) {f : PS (PS (Zm m))} {N q : Nat} (L : LwN f N) (hq : 2 ≤ q ∧ 2 * q ≤ N + 1 ∧ N ≤ 11) (hb : ∀ i, 0 < i → i < q → nc (Zm m) (bin q i) = 0) (a b c : PS (Zm m)) : duQ f q (duQ f q a b) c = duQ f q a (duQ f q b c) := by
 have hv0 := pw_rank L.z0 (q := q) (by omega) hb
 exact duQ_assoc (kernel_asN (fun k hk => pw_over hv0 hk) (fun i j l hi hj hl => kernel_as1 hm L hq hb hi hj hl)) a b c
end
end PS
end Go.Fg
