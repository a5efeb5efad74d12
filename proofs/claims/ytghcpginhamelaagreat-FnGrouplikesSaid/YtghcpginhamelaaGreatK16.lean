/- Parts of the proof. -/
import Derived.Test.YtghcpginhamelaaGreatK10
import Derived.Test.YtghcpginhamelaaGreatVm32
import Derived.Test.YtghcpginhamelaaGreatAlg7
namespace Go.Proofs
open Go Go.Vm Go.Fg Go.Fg.PS
set_option maxRecDepth 100000
set_option maxHeartbeats 4000000
set_option linter.unusedSimpArgs false
set_option linter.unusedVariables false
variable {m : Int}
def xM (d : D) (k : D → Prop) : Prop := match d with
 | .ref r p sz off n => uF r fun r => k (.ref r p sz off n)
 | .ptr r p off => uF r fun r => k (.ptr r p off)
 | .lit v => wL v fun v => k (.lit v)
 | d => k d
def pG (f : D → (D → Prop) → Prop) : List D → (List D → Prop) → Prop
 | [], k => k []
 | d :: ds, k => f d fun d => pG f ds fun ds => k (d :: ds)
def uS (f : D → (D → Prop) → Prop) (d : D) (k : D → Prop) : Prop := match d with
 | .agg ds => pG f ds fun ds => k (.agg ds)
 | .tup ds => pG f ds fun ds => k (.tup ds)
 | .fn g fs cs => pG f fs fun fs => pG f cs fun cs => k (.fn g fs cs)
 | d => xM d k
def wD (d : D) (k : D → Prop) : Prop := uS (uS (uS xM)) d k
def mT : List (Option Root) → (List (Option Root) → Prop) → Prop
 | [], k => k []
 | none :: rs, k => mT rs fun rs => k (none :: rs)
 | some ⟨true, sz, cs⟩ :: rs, k => pG wD cs fun cs => mT rs fun rs => k (some ⟨true, sz, cs⟩ :: rs)
 | some ⟨false, sz, cs⟩ :: rs, k => mT rs fun rs => k (some ⟨false, sz, cs⟩ :: rs)
theorem Z6 (d : D) (k : D → Prop) : xM d k = k d := by
 unfold xM; split <;> simp only [lA, H8]
theorem N6 {f : D → (D → Prop) → Prop} (hf : ∀ d k, f d k = k d) : ∀ (ds : List D) (k : List D → Prop), pG f ds k = k ds
 | [], k => rfl
 | d :: ds, k => by simp only [pG, hf, N6 hf ds]
theorem Q4 {f : D → (D → Prop) → Prop} (hf : ∀ d k, f d k = k d) (d : D) (k : D → Prop) : uS f d k = k d := by
 unfold uS; split <;> simp only [N6 hf, Z6]
theorem Acr (d : D) (k : D → Prop) : wD d k = k d := Q4 (Q4 (Q4 Z6)) d k
theorem xR : ∀ (rs : List (Option Root)) (k : List (Option Root) → Prop), mT rs k = k rs
 | [], k => rfl
 | none :: rs, k => by simp only [mT, xR rs]
 | some ⟨true, sz, cs⟩ :: rs, k => by simp only [mT, N6 Acr, xR rs]
 | some ⟨false, sz, cs⟩ :: rs, k => by simp only [mT, xR rs]
theorem T2 {P : Program} {p : Prop} {g : Nat} {fs cs args argsB : List D} {rt rtB : List (Option Root)} {K KB : D → List (Option Root) → Prop} {kp : Nat} (σ : List Nat) (h : cM P g kp args (none :: rt) K) (hkp : 1 ≤ kp ∧ kp ≤ σ.length + 1)
   (hent : chk (Go.Vm.distinct (cP σ)) (mA (cP σ) args (fs ++ argsB ++ cs) (fM (cP σ) rtB (cP σ) (none :: rt) True)))
   (hK : ∀ d rt', K d rt' → rt'[0]? = some none ∧ kp ≤ rt'.length ∧ wD (renD (dS σ kp rtB.length) d) fun d => mT (eH σ kp rtB rt') fun r => KB d r) : p ∨ jC P (.fn (.func g) fs cs) argsB rtB KB :=
 .inr (cM.frame σ hkp h hent (fun d rt' hd => by
   obtain ⟨h1, h2, h3⟩ := hK d rt' hd
   rw [Acr, xR] at h3
   exact ⟨h1, h2, h3⟩))
theorem bM {P : Program} {p : Prop} {g : Nat} {fs cs args argsB : List D} {rt rtB : List (Option Root)} {K KB : D → List (Option Root) → Prop} {kp : Nat} (σ : List Nat) (h : cM P g kp args (none :: rt) K)
   (hK : ∀ d rt', K d rt' → rt'[0]? = some none ∧ kp ≤ rt'.length ∧ wD (renD (dS σ kp rtB.length) d) fun d => mT (eH σ kp rtB rt') fun r => KB d r) (hkp : 1 ≤ kp ∧ kp ≤ σ.length + 1 := by decide)
   (hent : chk (Go.Vm.distinct (cP σ)) (mA (cP σ) args (fs ++ argsB ++ cs) (fM (cP σ) rtB (cP σ) (none :: rt) True)) := by first | ((conv => whnf); (repeat' ((first | refine zP rfl ?_ | refine zP (lV aF) ?_ | refine zP bP ?_ | exact trivial) <;> (conv => whnf))); (first | done | fail))) : p ∨ jC P (.fn (.func g) fs cs) argsB rtB KB :=
 T2 σ h hkp hent hK
theorem eB {kp : Nat} (σ : List (Option Nat)) {st st2 : St} (h : B0 kp σ st st2 := by first | ((conv => whnf); (repeat' ((first | refine zP rfl ?_ | refine zP (lV aF) ?_ | refine zP bP ?_ | refine zP ?_ ?_ | exact trivial) <;> try (conv => whnf))); (first | done | fail))) : aC kp st st2 := aC.of σ h
theorem jA {P : Program} {p : Prop} {g : Nat} {fs cs args argsB : List D} {rt rt0 rtB : List (Option Root)} {d0 : D} {KB : D → List (Option Root) → Prop} {kp : Nat} (σ : List Nat) (h : cM P g kp args (none :: rt) (fun d r => d = d0 ∧ r = none :: rt0)) (hkp : 1 ≤ kp ∧ kp ≤ σ.length + 1)
   (hent : chk (Go.Vm.distinct (cP σ)) (mA (cP σ) args (fs ++ argsB ++ cs) (fM (cP σ) rtB (cP σ) (none :: rt) True))) (hl : kp ≤ (none :: rt0 : List (Option Root)).length)
   (hK : wD (renD (dS σ kp rtB.length) d0) fun d => mT (eH σ kp rtB (none :: rt0)) fun r => KB d r) : p ∨ jC P (.fn (.func g) fs cs) argsB rtB KB :=
 T2 σ h hkp hent (fun d rt' hd => by
   obtain ⟨rfl, rfl⟩ := hd
   exact ⟨rfl, hl, hK⟩)
def lM (w : Nat) (r : Nat → Int) : List Int := (List.range w).map r
def tM (N w : Nat) (M : Nat → Nat → Int) : List (List Int) := (List.range N).map fun i => lM w (M i)
@[simp] theorem Ass (w : Nat) (r : Nat → Int) : (lM w r).length = w := by simp [lM]
@[simp] theorem Ast (N w : Nat) (M : Nat → Nat → Int) : (tM N w M).length = N := by simp [tM]
theorem Aii {w : Nat} {r : Nat → Int} {x : Int} (h : x = r w) : lM w r ++ [x] = lM (w + 1) r := by
 subst h; simp [lM, List.range_succ]
end Go.Proofs
namespace Go.Proofs
open Go Go.Vm Go.Fg
set_option maxRecDepth 100000
set_option maxHeartbeats 4000000
set_option linter.unusedSimpArgs false
set_option linter.unusedVariables false
def dR (l : List Nat) : List D := l.map fun (b : Nat) => D.lit (Value.int IntKind.u8 (b : Int))
@[simp] theorem bB (l : List Nat) : (dR l).length = l.length := by simp [dR]
theorem sX {l : List Nat} {q i : Nat} (e : q = i) (h : i < l.length) : (dR l)[q]? = some (.lit (.int .u8 ((l.getD i 0 : Nat) : Int))) := by
 subst e
 simp [dR, h]
abbrev aU (o : Bool) (l : List Nat) (a : Nat) (h : Int) : Root := ⟨true, 1, [.list o 1 (dR l), aA a, .lit (.int .u64 h)]⟩
theorem Af7 (z : Int) : 0 ≤ IntKind.u64.wrap ((BitVec.ofInt IntKind.u64.bits z &&& BitVec.ofInt IntKind.u64.bits 16777215).toNat : Nat) ∧ IntKind.u64.wrap ((BitVec.ofInt IntKind.u64.bits z &&& BitVec.ofInt IntKind.u64.bits 16777215).toNat : Nat) ≤ 16777215 := by
 have h1 : (BitVec.ofInt IntKind.u64.bits z &&& BitVec.ofInt IntKind.u64.bits 16777215).toNat ≤ 16777215 := by
   rw [BitVec.toNat_and]
   exact Nat.le_trans Nat.and_le_right (by decide)
 generalize (BitVec.ofInt IntKind.u64.bits z &&& BitVec.ofInt IntKind.u64.bits 16777215).toNat = q at *
 have e : IntKind.u64.wrap (q : Int) = q := by
   simp [IntKind.wrap, IntKind.bits]
   omega
 rw [e]
 omega
theorem dV (o : Bool) (l : List Nat) (hb : ∀ b ∈ l, b < 256) (hl : l.length ≤ 4611686018427387904) (a : Nat) (ha : a ≤ l.length) (hs : Int) (n : Int) :
   cM Tryz.prog 90 2 [.ptr 1 [] 0, aA n] [none, some (aU o l a hs)]
     (fun d rt => ∃ (x : Int) (a' : Nat) (h' : Int), ((n < 1 → x = 0) ∧ (1 ≤ n → 0 ≤ x ∧ x < n)) ∧ a' ≤ l.length ∧ d = aA x ∧ rt = [none, some (aU o l a' h')]) := by
 have hbyte : a < l.length → l.getD a 0 < 256 := fun h => hb _ (by rw [List.getD_eq_getElem?_getD, List.getElem?_eq_getElem h]; exact List.getElem_mem h)
 refine eR Tryz.tabOk aE 2 _ Tryz.func90 rfl rfl ?_
 conv => whnf
 repeat' first | ((first | refine z0 ?_ | (refine zP (fun h => ?_) (fun h => ?_) <;> (try simp only [aB, aD] at h)) | refine zS ?_ | refine zV ?_ | (apply zI; refine zP aK ?_) | (apply zI; refine zP aH ?_) | refine zA ?_ | refine Alt.fst ?_ | refine Or.inl ?_) <;> conv => whnf) | fail
 · have hn1 : n < 1 := by assumption
   have hwk := fun st => aC.autoR (kp := 2) (st := st) (st2 := ⟨[aA 0], [none, some (aU o l a hs)]⟩)
   refine ⟨aA 0, [none, some (aU o l a hs)], ⟨0, a, hs, ⟨fun _ => rfl, fun h => by omega⟩, ha, rfl, rfl⟩, hwk _ ?_⟩
   conv => whnf
   repeat' ((first | refine z1 ?_ | refine z2 ?_ | refine zV ?_ | refine zP ?_ ?_ | exact trivial) <;> try (conv => whnf))
 · have hn1 : ¬ n < 1 := by assumption
   generalize IntKind.u64.wrap (IntKind.u64.wrap (hs * 6364136223846793005) + 1442695040888963407) = H
   have hx := Af7 (H.fdiv (2 ^ min (Int.toNat 33) IntKind.u64.bits))
   generalize IntKind.u64.wrap ((BitVec.ofInt IntKind.u64.bits (H.fdiv (2 ^ min (Int.toNat 33) IntKind.u64.bits)) &&& BitVec.ofInt IntKind.u64.bits 16777215).toNat : Nat) = X at hx ⊢
   repeat' first | ((first | refine z0 ?_ | (apply zI; refine zP (sX (i := a) aN (by simp only [aB, bB] at *; omega)) ?_) | (refine zP (fun h => ?_) (fun h => ?_) <;> (try simp only [aB, aD] at h)) | refine zS ?_ | refine zV ?_) <;> conv => whnf) | fail
   · have hal : a < l.length := by simp only [bB] at *; omega
     have hby := hbyte hal
     repeat' first | ((first | refine z0 ?_ | (apply zI; refine zP (sX (i := a) aN (by simp only [aB, bB] at *; omega)) ?_) | (refine zP (fun h => ?_) (fun h => ?_) <;> (try simp only [aB, aD] at h)) | refine zS ?_ | refine zV ?_) <;> conv => whnf) | fail
     have hwk := fun st => aC.autoR (kp := 2) (st := st) (st2 := ⟨[aA ((X + ((l.getD a 0 : Nat) : Int)).tmod n)], [none, some (aU o l (a + 1) H)]⟩)
     refine ⟨aA ((X + ((l.getD a 0 : Nat) : Int)).tmod n), [none, some (aU o l (a + 1) H)], ⟨_, a + 1, H, ⟨fun h => by omega, fun h => ⟨Int.tmod_nonneg _ (by omega), Int.tmod_lt_of_pos _ (by omega)⟩⟩, hal, rfl, rfl⟩, hwk _ ?_⟩
     conv => whnf
     repeat' ((first | refine z1 ?_ | refine z2 ?_ | refine zV ?_ | refine zP ?_ ?_ | exact trivial) <;> try (conv => whnf))
   · have hwk := fun st => aC.autoR (kp := 2) (st := st) (st2 := ⟨[aA (X.tmod n)], [none, some (aU o l a H)]⟩)
     refine ⟨aA (X.tmod n), [none, some (aU o l a H)], ⟨_, a, H, ⟨fun h => by omega, fun h => ⟨Int.tmod_nonneg _ (by omega), Int.tmod_lt_of_pos _ (by omega)⟩⟩, ha, rfl, rfl⟩, hwk _ ?_⟩
     conv => whnf
     repeat' ((first | refine z1 ?_ | refine z2 ?_ | refine zV ?_ | refine zP ?_ ?_ | exact trivial) <;> try (conv => whnf))
theorem xG (o : Bool) (l : List Nat) (hb : ∀ b ∈ l, b < 256) (hl : l.length ≤ 4611686018427387904) :
   cM Tryz.prog 89 1 [.list o 1 (dR l)] [none]
     (fun d rt => ∃ h' : Int, d = .ptr 1 [] 0 ∧ rt = [none, some (aU o l 0 h')]) := by
 refine eR Tryz.tabOk aE 1 _ Tryz.func89 rfl rfl ?_
 conv => whnf
 repeat' first | ((first | refine z0 ?_ | (refine zP (fun h => ?_) (fun h => ?_) <;> (try simp only [aB, aD] at h)) | refine zS ?_ | refine zV ?_ | (apply zI; refine zP aK ?_) | (apply zI; refine zP aH ?_) | refine zA ?_ | refine Alt.fst ?_ | refine Or.inl ?_) <;> conv => whnf) | fail
 refine aR Tryz.tabOk aE (α := Nat × Int) (fun x => [(4, aA x.1)]) (fun x => [(1, some (aU o l 0 x.2))]) (fun x => x.1 ≤ l.length) (fun x => l.length - x.1) ((0, IntKind.u64.wrap (5113 + IntKind.u64.wrap (l.length : Nat)))) ?_ ?_ ?_
 · omega
 · conv => whnf
   first | refine aG.autoR ?_ | refine aC.autoR ?_
   conv => whnf
   repeat' ((first | refine z1 ?_ | refine z2 ?_ | refine zV ?_ | refine zP bQ ?_ | refine zP bR ?_ | refine zP ?_ ?_ | exact trivial) <;> try (conv => whnf))
   rw [show cnt 1 (dR l) = l.length by rw [aB, bB]]
 intro ⟨i, hh⟩ hi
 simp only at hi
 conv => whnf
 repeat' first | ((first | refine z0 ?_ | (apply zI; refine zP (sX (i := i) aN (by simp only [aB, bB] at *; omega)) ?_) | (refine zP (fun h => ?_) (fun h => ?_) <;> (try simp only [aB, aD] at h)) | refine zS ?_ | refine zV ?_) <;> conv => whnf) | fail
 · have hil : i < l.length := by simp only [bB] at *; omega
   refine Exists.intro (i + 1, IntKind.u64.wrap (IntKind.u64.wrap (IntKind.u64.wrap (hh * 1099511628211) + IntKind.u64.wrap ((l.getD i 0 : Nat) : Int)) + 11)) (zP hil (zP (by simp only; omega) ?_))
   first | refine aG.autoR ?_ | refine aC.autoR ?_
   conv => whnf
   repeat' ((first | refine z1 ?_ | refine z2 ?_ | refine zV ?_ | refine zP bQ ?_ | refine zP bR ?_ | refine zP ?_ ?_ | exact trivial) <;> try (conv => whnf))
 · have hwk := fun st => aC.autoR (kp := 1) (st := st) (st2 := ⟨[.ptr 1 [] 0], [none, some (aU o l 0 hh)]⟩)
   refine ⟨.ptr 1 [] 0, [none, some (aU o l 0 hh)], ⟨hh, rfl, rfl⟩, hwk _ ?_⟩
   conv => whnf
   repeat' ((first | refine z1 ?_ | refine z2 ?_ | refine zV ?_ | refine zP ?_ ?_ | exact trivial) <;> try (conv => whnf))
 · have hwk := fun st => aC.autoR (kp := 1) (st := st) (st2 := ⟨[.ptr 1 [] 0], [none, some (aU o l 0 hh)]⟩)
   refine ⟨.ptr 1 [] 0, [none, some (aU o l 0 hh)], ⟨hh, rfl, rfl⟩, hwk _ ?_⟩
   conv => whnf
   repeat' ((first | refine z1 ?_ | refine z2 ?_ | refine zV ?_ | refine zP ?_ ?_ | exact trivial) <;> try (conv => whnf))
theorem sR (o : Bool) (l : List Nat) (hb : ∀ b ∈ l, b < 256) (hl : l.length ≤ 4611686018427387904) (a : Nat) (ha : a ≤ l.length) (hs : Int) (xs : List Int) (hx : 1 ≤ xs.length ∧ xs.length ≤ 1000) :
   cM Tryz.prog 111 3 [.ptr 1 [] 0, .ref 2 [] 1 0 xs.length] [none, some (aU o l a hs), some ⟨false, 1, ints xs⟩]
     (fun d rt => ∃ (x : Int) (a' : Nat) (h' : Int), x ∈ xs ∧ a' ≤ l.length ∧ d = aA x ∧ rt = [none, some (aU o l a' h'), some ⟨false, 1, ints xs⟩]) := by
 refine eR Tryz.tabOk aE 3 _ Tryz.func111 rfl rfl ?_
 conv => whnf
 repeat' first | (refine bM [1] (dV o l hb hl a ha hs (xs.length : Int)) (fun d rt' hd => ?_)) | fail
 obtain ⟨x, a1, h1, hx1, ha1, rfl, rfl⟩ := hd
 refine ⟨rfl, by simp, ?_⟩
 conv => whnf
 have hx2 := hx1.2 (by omega)
 repeat' first | ((first | refine z0 ?_ | (refine zP (fun h => ?_) (fun h => ?_) <;> (try simp only [aB, aD] at h)) | refine zS ?_ | refine zV ?_ | (apply zI; refine zP aK ?_) | (apply zI; refine zP aH ?_) | refine zA ?_ | refine Alt.fst ?_ | refine Or.inl ?_) <;> conv => whnf) | fail
 have hmem : xs.getD x.toNat 0 ∈ xs := by
   rw [List.getD_eq_getElem?_getD, List.getElem?_eq_getElem (show x.toNat < xs.length by omega)]; exact List.getElem_mem _
 have hwk := fun st => aC.autoR (kp := 3) (st := st) (st2 := ⟨[aA (xs.getD x.toNat 0)], [none, some (aU o l a1 h1), some ⟨false, 1, ints xs⟩]⟩)
 refine ⟨aA (xs.getD x.toNat 0), [none, some (aU o l a1 h1), some ⟨false, 1, ints xs⟩], ⟨_, a1, h1, hmem, ha1, rfl, rfl⟩, hwk _ ?_⟩
 conv => whnf
 repeat' ((first | refine z1 ?_ | refine z2 ?_ | refine zV ?_ | refine zP ?_ ?_ | exact trivial) <;> try (conv => whnf))
def bH (p : Nat) : Nat → Nat → List Int
 | 0, _ => []
 | n + 1, N => ((N / p ^ n : Nat) : Int) :: bH p n (N % p ^ n)
@[simp] theorem yI (p : Nat) : ∀ n N, (bH p n N).length = n
 | 0, _ => rfl
 | n + 1, N => by simp [bH, yI p n]
theorem uJ {p : Nat} (hp : 0 < p) : ∀ n N, N < p ^ n → ∀ x ∈ bH p n N, 0 ≤ x ∧ x < (p : Int)
 | 0, _, _, x, hx => by simp [bH] at hx
 | n + 1, N, hN, x, hx => by
   have hP : 0 < p ^ n := Nat.pow_pos hp
   simp only [bH, List.mem_cons] at hx
   rcases hx with rfl | hx
   · have : N / p ^ n < p := Nat.div_lt_of_lt_mul (by rw [Nat.pow_succ] at hN; exact hN)
     exact ⟨Int.natCast_nonneg _, Int.ofNat_lt.2 this⟩
   · exact uJ hp n _ (Nat.mod_lt _ hP) x hx
theorem sH (p : Nat) : ∀ n, bH p n 0 = List.replicate n 0
 | 0 => rfl
 | n + 1 => by simp [bH, sH p n, List.replicate_succ]
def nx (p : Int) : List Int → Option (List Int)
 | [] => none
 | x :: u => match nx p u with
   | some v => some (x :: v)
   | none => if x + 1 < p then some ((x + 1) :: List.replicate u.length 0) else none
theorem rU {p : Nat} (hp : 0 < p) : ∀ n N, N < p ^ n → nx p (bH p n N) = if N + 1 < p ^ n then some (bH p n (N + 1)) else none
 | 0, N, hN => by
   have : N = 0 := by simpa using hN
   subst this; rfl
 | n + 1, N, hN => by
   have hP : 0 < p ^ n := Nat.pow_pos hp
   have ih := rU hp n (N % p ^ n) (Nat.mod_lt _ hP)
   have hd := Nat.div_add_mod N (p ^ n)
   have hml := Nat.mod_lt N hP
   rw [Nat.pow_succ] at hN ⊢
   have hX : N / p ^ n < p := Nat.div_lt_of_lt_mul hN
   simp only [bH, nx, ih]
   generalize p ^ n = P at *
   generalize N / P = X at *
   generalize N % P = M at *
   by_cases h : M + 1 < P
   · have e : N + 1 = P * X + (M + 1) := by omega
     have h3 : P * (X + 1) ≤ P * p := Nat.mul_le_mul_left _ hX
     rw [Nat.mul_add, Nat.mul_one] at h3
     have e2 : N + 1 < P * p := by omega
     rw [if_pos h]
     simp only []
     rw [if_pos e2, e, Nat.mul_add_div hP, Nat.mul_add_mod, Nat.div_eq_of_lt h, Nat.mod_eq_of_lt h]
     rfl
   · have e : N + 1 = P * (X + 1) := by rw [Nat.mul_add, Nat.mul_one]; omega
     rw [if_neg h]
     simp only [yI]
     by_cases h2 : X + 1 < p
     · have h3 : P * (X + 1) < P * p := Nat.mul_lt_mul_of_pos_left h2 hP
       rw [if_pos (by omega), if_pos (by omega), e, Nat.mul_div_cancel_left _ hP, Nat.mul_mod_right, sH]
       rfl
     · have h3 : P * p ≤ P * (X + 1) := Nat.mul_le_mul_left _ (by omega)
       rw [if_neg (by omega), if_neg (by omega)]
theorem U9 {p : Int} {b b' : List Int} (h : nx p b = some b') : ∀ a : List Int, nx p (a ++ b) = some (a ++ b')
 | [] => h
 | x :: a => by simp only [List.cons_append, nx, U9 h a]
theorem Aqt {p x : Int} {b : List Int} (h : nx p b = none) (hx : x + 1 < p) : nx p (x :: b) = some ((x + 1) :: List.replicate b.length 0) := by
 simp only [nx, h, if_pos hx]
theorem An5 {p x : Int} {b : List Int} (h : nx p b = none) (hx : ¬ x + 1 < p) : nx p (x :: b) = none := by
 simp only [nx, h, if_neg hx]
def ext (p : Nat) (good : List Int → Bool) : Nat → List Int → List (List Int)
 | 0, u => if good u then [u] else []
 | n + 1, u => (List.range p).flatMap fun (x : Nat) => ext p good n (u ++ [(x : Int)])
def hM (p : Nat) (good : List Int → Bool) (n : Nat) (u : List Int) (x : Nat) : List (List Int) := (List.range x).flatMap fun (x : Nat) => ext p good n (u ++ [(x : Int)])
theorem Abe (p : Nat) (good : List Int → Bool) (n : Nat) (u : List Int) : hM p good n u 0 = [] := rfl
theorem D8 (p : Nat) (good : List Int → Bool) (n : Nat) (u : List Int) (x : Nat) : hM p good n u (x + 1) = hM p good n u x ++ ext p good n (u ++ [(x : Int)]) := by
 simp [hM, List.range_succ]
theorem Ac4 (p : Nat) (good : List Int → Bool) (n : Nat) (u : List Int) : hM p good n u p = ext p good (n + 1) u := rfl
theorem Abw (P : Nat) {α : Type} (f : Nat → α) : ∀ k, (List.range (k * P)).map f = (List.range k).flatMap fun x => (List.range P).map fun N => f (x * P + N)
 | 0 => by simp
 | k + 1 => by
   rw [Nat.succ_mul, List.range_add, List.map_append, Abw P f k, List.range_succ, List.flatMap_append]
   simp [List.map_map, Function.comp_def]
theorem ext_eq {p : Nat} (hp : 0 < p) (good : List Int → Bool) : ∀ (n : Nat) (u : List Int), ext p good n u = ((List.range (p ^ n)).map fun N => u ++ bH p n N).filter good
 | 0, u => by
   simp only [ext, Nat.pow_zero, bH, List.append_nil]
   by_cases h : good u <;> simp [h]
 | n + 1, u => by
   have hP : 0 < p ^ n := Nat.pow_pos hp
   rw [show p ^ (n + 1) = p * p ^ n by rw [Nat.pow_succ, Nat.mul_comm], Abw, List.filter_flatMap]
   unfold ext
   congr 1
   funext x
   rw [ext_eq hp good n]
   congr 1
   refine List.map_congr_left (fun N hN => ?_)
   have hN := List.mem_range.1 hN
   simp only [bH, List.append_assoc, List.singleton_append]
   rw [Nat.mul_comm x, Nat.mul_add_div hP, Nat.mul_add_mod, Nat.div_eq_of_lt hN, Nat.mod_eq_of_lt hN, Nat.add_zero]
theorem oC {p : Nat} (hp : 0 < p) (good : List Int → Bool) (n : Nat) (u : List Int) : (ext p good n u).length ≤ p ^ n := by
 rw [ext_eq hp]
 refine Nat.le_trans (List.length_filter_le _ _) ?_
 simp
theorem K5 {p : Nat} (hp : 0 < p) (good : List Int → Bool) (n : Nat) (u : List Int) : ∀ x, (hM p good n u x).length ≤ x * p ^ n
 | 0 => by simp [hM]
 | x + 1 => by
   rw [D8, List.length_append, Nat.succ_mul]
   have := K5 hp good n u x
   have := oC hp good n (u ++ [(x : Int)])
   omega
theorem Acc {α : Type} {f : Nat → List α} {h : Nat} : ∀ {k : Nat}, (∀ x, x < k → x ≠ h → f x = []) → (List.range k).flatMap f = if h < k then f h else []
 | 0, _ => by simp
 | k + 1, hf => by
   rw [List.range_succ, List.flatMap_append, Acc (fun x hx hn => hf x (by omega) hn)]
   simp only [List.flatMap_cons, List.flatMap_nil, List.append_nil]
   by_cases e : h = k
   · subst e; rw [if_neg (by omega), if_pos (by omega)]; rfl
   · rw [hf k (by omega) (fun x => e x.symm), List.append_nil]
     by_cases e2 : h < k
     · rw [if_pos e2, if_pos (by omega)]
     · rw [if_neg e2, if_neg (by omega)]
theorem Apx {p h : Nat} (hp : 0 < p) (hh : h < p) (good g : List Int → Bool) (k : Nat) (e : ∀ u : List Int, u.length = k + 1 → good u = (decide (u.getD 0 0 = (h : Int)) && g u)) :
   ext p good (k + 1) [] = ((List.range (p ^ k)).map fun N => (h : Int) :: bH p k N).filter g := by
 unfold ext
 rw [Acc (h := h) (fun x _ hn => ?_), if_pos hh, ext_eq hp]
 · simp only [List.nil_append, List.singleton_append]
   refine List.filter_congr (fun u hu => ?_)
   simp only [List.mem_map, List.mem_range] at hu
   obtain ⟨N, _, rfl⟩ := hu
   rw [e _ (by simp)]
   simp
 · rw [ext_eq hp, List.filter_eq_nil_iff]
   intro u hu
   simp only [List.nil_append, List.singleton_append, List.mem_map, List.mem_range] at hu
   obtain ⟨N, _, rfl⟩ := hu
   rw [e _ (by simp)]
   simp only [List.getD_cons_zero, Bool.and_eq_true, decide_eq_true_eq]
   intro c
   exact hn (by have := c.1; omega)
theorem Ah7 {p n : Nat} (hp : 0 < p) (good : List Int → Bool) (h0 : good (bH p n 0) = true) : decide ((ext p good n []).length = 1) = true ↔ ∀ N, N + 1 < p ^ n → good (bH p n (N + 1)) = false := by
 have hP : 0 < p ^ n := Nat.pow_pos hp
 obtain ⟨P, hP2⟩ : ∃ P, p ^ n = P + 1 := ⟨p ^ n - 1, by omega⟩
 rw [ext_eq hp, hP2, List.range_succ_eq_map, List.map_cons, List.nil_append, List.filter_cons, if_pos h0]
 simp only [List.length_cons, decide_eq_true_eq]
 constructor
 · intro h N hN
   have hnil := List.eq_nil_of_length_eq_zero (show (List.filter good (List.map (fun N => [] ++ bH p n N) (List.map Nat.succ (List.range P)))).length = 0 by omega)
   rw [List.filter_eq_nil_iff] at hnil
   have := hnil (bH p n (N + 1)) (by
     simp only [List.map_map, List.mem_map, List.mem_range, Function.comp_def, List.nil_append]
     exact ⟨N, by omega, rfl⟩)
   simpa using this
 · intro h
   have : List.filter good (List.map (fun N => [] ++ bH p n N) (List.map Nat.succ (List.range P))) = [] := by
     rw [List.filter_eq_nil_iff]
     intro u hu
     simp only [List.map_map, List.mem_map, List.mem_range, Function.comp_def, List.nil_append] at hu
     obtain ⟨N, hN, rfl⟩ := hu
     simp [h N (by omega)]
   rw [this]; rfl
end Go.Proofs
namespace Go.Proofs
open Go Go.Vm Go.Fg Go.Fg.PS
set_option maxRecDepth 100000
set_option maxHeartbeats 4000000
set_option linter.unusedSimpArgs false
set_option linter.unusedVariables false
theorem Amc (u : List Int) (x : Int) : ints u ++ [aA x] = ints (u ++ [x]) := by simp [ints]
theorem gW (u : List Int) : sub (ints u) 1 0 (cnt 1 (ints u)) = ints u := by
 rw [aB]; simp [sub, List.take_of_length_le]
theorem Abr (u : List Int) : ∀ d, d ∈ sub (ints u) 1 0 (cnt 1 (ints u)) → d.cellOk = true := by
 rw [gW]
 intro d hd
 obtain ⟨x, _, rfl⟩ := List.mem_map.1 hd
 rfl
theorem S4 (u : List Int) (hu : u.length ≤ 1000) : 0 < 1 ∧ gA (cnt 1 (sub (ints u) 1 0 (cnt 1 (ints u))) + 1) (Tryz.tab.get 2).bytes := by
 rw [gW, aB, aD]
 exact ⟨by omega, room (by rw [show (Tryz.tab.get 2).bytes = 8 from by decide +kernel]; omega) (by omega)⟩
theorem At3 (u : List Int) (d : D) : (0 + (cnt 1 (sub (ints u) 1 0 (cnt 1 (ints u))) + 1)) * 1 ≤ (sub (ints u) 1 0 (cnt 1 (ints u)) ++ sub [d] 1 0 1).length := by
 rw [gW, aB, List.length_append, show (sub [d] 1 0 1).length = 1 from rfl]; omega
theorem Acz (u : List Int) (x : Int) : sub (ints u) 1 0 (cnt 1 (ints u)) ++ sub [aA x] 1 0 1 = ints (u ++ [x]) := by
 rw [gW, ← Amc]; rfl
theorem Q9 (u : List Int) (x : Int) : (sub (ints u) 1 0 (cnt 1 (ints u)) ++ sub [aA x] 1 0 1).map frz1 = ints (u ++ [x]) := by
 rw [Acz]; simp [ints, Function.comp_def, frz1]
theorem Abb (u : List Int) (x : Int) : (cnt 1 (sub (ints u) 1 0 (cnt 1 (ints u))) + 1) * 1 = (sub (ints u) 1 0 (cnt 1 (ints u)) ++ sub [aA x] 1 0 1).length := by
 rw [Acz, gW, aB]; simp
theorem Aac (L : List (List Int)) (u : List Int) : rows true L ++ [.list true 1 (ints u)] = rows true (L ++ [u]) := by simp [rows]
theorem Ae7 (o : Bool) (l : List Int) (hl : l.length ≤ 1048576) : aL Tryz.prog 143 [.list o 1 (ints l)] (.list true 1 (ints l)) := by
 refine aX Tryz.tabOk aE Tryz.func143 rfl rfl ?_
 conv => whnf
 repeat' first | ((first | refine z0 ?_ | (refine zP (fun h => ?_) (fun h => ?_) <;> (try simp only [aB, aD] at h)) | refine zS ?_ | refine zV ?_ | (apply zI; refine zP aK ?_) | (apply zI; refine zP aH ?_) | refine zA ?_ | refine Alt.fst ?_ | refine Or.inl ?_) <;> conv => whnf) | fail
 rfl
abbrev mM (kD fD : D) (l r : Nat) : List (Option Root) := [some ⟨true, 1, [kD]⟩, some ⟨true, 1, [fD]⟩, some ⟨true, 1, [.ref r [] 1 0 l]⟩, some ⟨true, 1, [.fn (.func 283) [] [.ptr 1 [] 0, .ptr 2 [] 0, .ptr 3 [] 0, .ptr 4 [] 0]]⟩]
abbrev eN (p q : Nat) (d2 d3 d4 : D) : D := .cptr [aA p, aA q, d2, d3, d4] 0
theorem Y8 (p q : Nat) (hp : 2 ≤ p ∧ p ≤ 100) (hq : 1 ≤ q ∧ q ≤ 100) (d2 d3 d4 : D) (g : Nat)  (good : List Int → Bool)
   (hf : ∀ u : List Int, u.length = q → (∀ x ∈ u, 0 ≤ x ∧ x < (p : Int)) → aL Tryz.prog g [eN p q d2 d3 d4, .list false 1 (ints u)] (bD (good u))) :
   ∀ (n : Nat) (u : List Int) (L : List (List Int)), u.length + n = q → (∀ x ∈ u, 0 ≤ x ∧ x < (p : Int)) → L.length + p ^ n ≤ 1000000 →
   cM Tryz.prog 283 6 [.list false 1 (ints u), .ptr 1 [] 0, .ptr 2 [] 0, .ptr 3 [] 0, .ptr 4 [] 0]
     (none :: mM (eN p q d2 d3 d4) (.fn (.func g) [eN p q d2 d3 d4] []) L.length 5 ++ [some ⟨false, 1, rows true L⟩])
     (fun d rt => d = .tup [] ∧ rt = (none :: mM (eN p q d2 d3 d4) (.fn (.func g) [eN p q d2 d3 d4] []) (L ++ ext p good n u).length 6 ++ none :: [some ⟨false, 1, rows true (L ++ ext p good n u)⟩]))
 | 0, u, L, hu, hb, hL => by
   have key := hf u (by omega) hb
   refine eR Tryz.tabOk aE 6 _ Tryz.func283 rfl rfl ?_
   conv => whnf
   repeat' first | ((first | refine z0 ?_ | (apply zI; refine zP (rfl) ?_) | (apply zI; refine zP (key) ?_) | (apply zI; refine zP (Ae7 _ u (by omega)) ?_) | (refine zP (fun h => ?_) (fun h => ?_) <;> (try simp only [aB, aD] at h) <;> first | (exfalso; omega) | skip) | refine zS ?_ | refine zV ?_ | refine Alt.fst ?_ | refine Or.inl ?_) <;> conv => whnf) | fail
   · have hg : good u = true := by assumption
     have e : L ++ ext p good 0 u = L ++ [u] := by rw [ext, if_pos hg]
     rw [e, List.length_append, List.length_singleton]
     refine ⟨.tup [], none :: mM (eN p q d2 d3 d4) (.fn (.func g) [eN p q d2 d3 d4] []) (L.length + 1) 6 ++ none :: [some ⟨false, 1, rows true (L ++ [u])⟩], ⟨rfl, rfl⟩, aC.of (kp := 6) [none, some 1, some 2, some 3, some 4, none, some 9] ?_⟩
     conv => whnf
     repeat' ((first | refine z1 ?_ | refine zP ?_ ?_ | exact trivial) <;> try (conv => whnf))
     all_goals exact Aac L u
   · have hg : good u = false := by assumption
     have e : L ++ ext p good 0 u = L := by rw [ext, if_neg (by rw [hg]; exact Bool.false_ne_true), List.append_nil]
     rw [e]
     refine ⟨.tup [], none :: mM (eN p q d2 d3 d4) (.fn (.func g) [eN p q d2 d3 d4] []) L.length 6 ++ none :: [some ⟨false, 1, rows true L⟩], ⟨rfl, rfl⟩, aC.of (kp := 6) [none, some 1, some 2, some 3, some 4, none, some 5] ?_⟩
     conv => whnf
     repeat' ((first | refine z1 ?_ | refine zP ?_ ?_ | exact trivial) <;> try (conv => whnf))
 | n + 1, u, L, hu, hb, hL => by
   refine eR Tryz.tabOk aE 6 _ Tryz.func283 rfl rfl ?_
   conv => whnf
   have hpow : p * p ^ n ≤ 1000000 := by rw [Nat.pow_succ, Nat.mul_comm] at hL; omega
   have hlen := K5 (p := p) (by omega) good n u
   repeat' first | ((first | (apply zI; refine zP (rfl) ?_) | (refine zP (fun h => ?_) (fun h => ?_) <;> (try simp only [aB, aD] at h) <;> first | (exfalso; omega) | skip) | refine zV ?_) <;> conv => whnf) | fail
   refine aR Tryz.tabOk aE (α := Nat) (fun x => [(26, aA x), (6, .undef), (28, .undef), (29, .undef), (30, .undef), (31, .undef), (33, .undef), (35, .undef), (36, .undef), (37, .undef), (38, .undef), (39, .undef)]) (fun x => [(3, some ⟨true, 1, [.ref 6 [] 1 0 (L ++ hM p good n u x).length]⟩), (5, none), (6, some ⟨false, 1, rows true (L ++ hM p good n u x)⟩)]) (fun x => x ≤ p) (fun x => p - x) (0) ?_ ?_ ?_
   · omega
   · conv => whnf
     first | refine aG.autoR ?_ | refine aC.autoR ?_
     conv => whnf
     repeat' ((first | refine z1 ?_ | refine zP ?_ ?_ | exact trivial) <;> try (conv => whnf))
     all_goals simp [Abe]
   intro x hx
   conv => whnf
   have hx1 := hlen x
   by_cases hxp : x < p
   · have h1 : (u ++ [(x : Int)]).length + n = q := by simp; omega
     have h2 : ∀ y ∈ u ++ [(x : Int)], 0 ≤ y ∧ y < (p : Int) := fun y hy => by
       rcases List.mem_append.1 hy with hy | hy
       · exact hb y hy
       · have : y = x := by simpa using hy
         omega
     have h3 : (L ++ hM p good n u x).length + p ^ n ≤ 1000000 := by
       have h4 : (x + 1) * p ^ n ≤ p * p ^ n := Nat.mul_le_mul_right _ hxp
       rw [Nat.succ_mul] at h4
       rw [Nat.pow_succ, Nat.mul_comm] at hL
       rw [List.length_append]; omega
     have ih := Y8 p q hp hq d2 d3 d4 g  good hf n (u ++ [(x : Int)]) (L ++ hM p good n u x) h1 h2 h3
     repeat' first | ((refine xQ 0 9 (xs' := ints (u ++ [(x : Int)])) rfl rfl (Abb u x) (Q9 u x) ?_; refine jA [1, 2, 3, 4, 6] ih (by decide) ?_ (by simp) ?_; (focus ((conv => whnf); (repeat' ((first | exact trivial | refine zP rfl ?_ | refine zP (lV aF) ?_ | refine zP bP ?_) <;> (conv => whnf))); done)); conv => whnf)) | ((first | (apply zI; refine zP (rfl) ?_) | (refine zP (fun h => ?_) (fun h => ?_) <;> (try simp only [aB, aD] at h) <;> first | (exfalso; omega) | skip) | refine zS ?_ | refine zV ?_ | refine zP (Abr u) ?_ | refine zP (S4 u (by omega)) ?_ | refine Alt.fst ?_) <;> conv => whnf) | fail
     refine Exists.intro (x + 1) (zP (by omega) (zP (by omega) ?_))
     first | refine aG.autoR ?_ | refine aC.autoR ?_
     conv => whnf
     repeat' ((first | refine z1 ?_ | refine zP ?_ ?_ | exact trivial) <;> try (conv => whnf))
     all_goals rw [D8, List.append_assoc]
   repeat' first | ((first | (apply zI; refine zP (rfl) ?_) | (refine zP (fun h => ?_) (fun h => ?_) <;> (try simp only [aB, aD] at h) <;> first | (exfalso; omega) | skip) | refine zV ?_) <;> conv => whnf) | fail
   · have hxp : x = p := by omega
     subst hxp
     rw [Ac4]
     refine ⟨.tup [], none :: mM (eN x q d2 d3 d4) (.fn (.func g) [eN x q d2 d3 d4] []) (L ++ ext x good (n + 1) u).length 6 ++ none :: [some ⟨false, 1, rows true (L ++ ext x good (n + 1) u)⟩], ⟨rfl, rfl⟩, aC.of (kp := 6) [none, some 1, some 2, some 3, some 4, none, some 6] ?_⟩
     conv => whnf
     repeat' ((first | refine z1 ?_ | refine zP ?_ ?_ | exact trivial) <;> try (conv => whnf))
theorem Afe (p q : Nat) (hp : 2 ≤ p ∧ p ≤ 100) (hq : 1 ≤ q ∧ q ≤ 100) (d2 d3 d4 : D) (g : Nat) (e1 e2 : D) (good : List Int → Bool)
   (hf : ∀ u : List Int, u.length = q → (∀ x ∈ u, 0 ≤ x ∧ x < (p : Int)) → aL Tryz.prog g [.list false 1 (ints u), .cptr [e1] 0, .cptr [e2] 0] (bD (good u))) :
   ∀ (n : Nat) (u : List Int) (L : List (List Int)), u.length + n = q → (∀ x ∈ u, 0 ≤ x ∧ x < (p : Int)) → L.length + p ^ n ≤ 1000000 →
   cM Tryz.prog 283 6 [.list false 1 (ints u), .ptr 1 [] 0, .ptr 2 [] 0, .ptr 3 [] 0, .ptr 4 [] 0]
     (none :: mM (eN p q d2 d3 d4) (.fn (.func g) [] [.cptr [e1] 0, .cptr [e2] 0]) L.length 5 ++ [some ⟨false, 1, rows true L⟩])
     (fun d rt => d = .tup [] ∧ rt = (none :: mM (eN p q d2 d3 d4) (.fn (.func g) [] [.cptr [e1] 0, .cptr [e2] 0]) (L ++ ext p good n u).length 6 ++ none :: [some ⟨false, 1, rows true (L ++ ext p good n u)⟩]))
 | 0, u, L, hu, hb, hL => by
   have key := hf u (by omega) hb
   refine eR Tryz.tabOk aE 6 _ Tryz.func283 rfl rfl ?_
   conv => whnf
   repeat' first | ((first | refine z0 ?_ | (apply zI; refine zP (rfl) ?_) | (apply zI; refine zP (key) ?_) | (apply zI; refine zP (Ae7 _ u (by omega)) ?_) | (refine zP (fun h => ?_) (fun h => ?_) <;> (try simp only [aB, aD] at h) <;> first | (exfalso; omega) | skip) | refine zS ?_ | refine zV ?_ | refine Alt.fst ?_ | refine Or.inl ?_) <;> conv => whnf) | fail
   · have hg : good u = true := by assumption
     have e : L ++ ext p good 0 u = L ++ [u] := by rw [ext, if_pos hg]
     rw [e, List.length_append, List.length_singleton]
     refine ⟨.tup [], none :: mM (eN p q d2 d3 d4) (.fn (.func g) [] [.cptr [e1] 0, .cptr [e2] 0]) (L.length + 1) 6 ++ none :: [some ⟨false, 1, rows true (L ++ [u])⟩], ⟨rfl, rfl⟩, aC.of (kp := 6) [none, some 1, some 2, some 3, some 4, none, some 9] ?_⟩
     conv => whnf
     repeat' ((first | refine z1 ?_ | refine zP ?_ ?_ | exact trivial) <;> try (conv => whnf))
     all_goals exact Aac L u
   · have hg : good u = false := by assumption
     have e : L ++ ext p good 0 u = L := by rw [ext, if_neg (by rw [hg]; exact Bool.false_ne_true), List.append_nil]
     rw [e]
     refine ⟨.tup [], none :: mM (eN p q d2 d3 d4) (.fn (.func g) [] [.cptr [e1] 0, .cptr [e2] 0]) L.length 6 ++ none :: [some ⟨false, 1, rows true L⟩], ⟨rfl, rfl⟩, aC.of (kp := 6) [none, some 1, some 2, some 3, some 4, none, some 5] ?_⟩
     conv => whnf
     repeat' ((first | refine z1 ?_ | refine zP ?_ ?_ | exact trivial) <;> try (conv => whnf))
 | n + 1, u, L, hu, hb, hL => by
   refine eR Tryz.tabOk aE 6 _ Tryz.func283 rfl rfl ?_
   conv => whnf
   have hpow : p * p ^ n ≤ 1000000 := by rw [Nat.pow_succ, Nat.mul_comm] at hL; omega
   have hlen := K5 (p := p) (by omega) good n u
   repeat' first | ((first | (apply zI; refine zP (rfl) ?_) | (refine zP (fun h => ?_) (fun h => ?_) <;> (try simp only [aB, aD] at h) <;> first | (exfalso; omega) | skip) | refine zV ?_) <;> conv => whnf) | fail
   refine aR Tryz.tabOk aE (α := Nat) (fun x => [(26, aA x), (6, .undef), (28, .undef), (29, .undef), (30, .undef), (31, .undef), (33, .undef), (35, .undef), (36, .undef), (37, .undef), (38, .undef), (39, .undef)]) (fun x => [(3, some ⟨true, 1, [.ref 6 [] 1 0 (L ++ hM p good n u x).length]⟩), (5, none), (6, some ⟨false, 1, rows true (L ++ hM p good n u x)⟩)]) (fun x => x ≤ p) (fun x => p - x) (0) ?_ ?_ ?_
   · omega
   · conv => whnf
     first | refine aG.autoR ?_ | refine aC.autoR ?_
     conv => whnf
     repeat' ((first | refine z1 ?_ | refine zP ?_ ?_ | exact trivial) <;> try (conv => whnf))
     all_goals simp [Abe]
   intro x hx
   conv => whnf
   have hx1 := hlen x
   by_cases hxp : x < p
   · have h1 : (u ++ [(x : Int)]).length + n = q := by simp; omega
     have h2 : ∀ y ∈ u ++ [(x : Int)], 0 ≤ y ∧ y < (p : Int) := fun y hy => by
       rcases List.mem_append.1 hy with hy | hy
       · exact hb y hy
       · have : y = x := by simpa using hy
         omega
     have h3 : (L ++ hM p good n u x).length + p ^ n ≤ 1000000 := by
       have h4 : (x + 1) * p ^ n ≤ p * p ^ n := Nat.mul_le_mul_right _ hxp
       rw [Nat.succ_mul] at h4
       rw [Nat.pow_succ, Nat.mul_comm] at hL
       rw [List.length_append]; omega
     have ih := Afe p q hp hq d2 d3 d4 g e1 e2 good hf n (u ++ [(x : Int)]) (L ++ hM p good n u x) h1 h2 h3
     repeat' first | ((refine xQ 0 9 (xs' := ints (u ++ [(x : Int)])) rfl rfl (Abb u x) (Q9 u x) ?_; refine jA [1, 2, 3, 4, 6] ih (by decide) ?_ (by simp) ?_; (focus ((conv => whnf); (repeat' ((first | exact trivial | refine zP rfl ?_ | refine zP (lV aF) ?_ | refine zP bP ?_) <;> (conv => whnf))); done)); conv => whnf)) | ((first | (apply zI; refine zP (rfl) ?_) | (refine zP (fun h => ?_) (fun h => ?_) <;> (try simp only [aB, aD] at h) <;> first | (exfalso; omega) | skip) | refine zS ?_ | refine zV ?_ | refine zP (Abr u) ?_ | refine zP (S4 u (by omega)) ?_ | refine Alt.fst ?_) <;> conv => whnf) | fail
     refine Exists.intro (x + 1) (zP (by omega) (zP (by omega) ?_))
     first | refine aG.autoR ?_ | refine aC.autoR ?_
     conv => whnf
     repeat' ((first | refine z1 ?_ | refine zP ?_ ?_ | exact trivial) <;> try (conv => whnf))
     all_goals rw [D8, List.append_assoc]
   repeat' first | ((first | (apply zI; refine zP (rfl) ?_) | (refine zP (fun h => ?_) (fun h => ?_) <;> (try simp only [aB, aD] at h) <;> first | (exfalso; omega) | skip) | refine zV ?_) <;> conv => whnf) | fail
   · have hxp : x = p := by omega
     subst hxp
     rw [Ac4]
     refine ⟨.tup [], none :: mM (eN x q d2 d3 d4) (.fn (.func g) [] [.cptr [e1] 0, .cptr [e2] 0]) (L ++ ext x good (n + 1) u).length 6 ++ none :: [some ⟨false, 1, rows true (L ++ ext x good (n + 1) u)⟩], ⟨rfl, rfl⟩, aC.of (kp := 6) [none, some 1, some 2, some 3, some 4, none, some 6] ?_⟩
     conv => whnf
     repeat' ((first | refine z1 ?_ | refine zP ?_ ?_ | exact trivial) <;> try (conv => whnf))
def gC (q j : Nat) (u : List Int) : List Int := u.take (q - j) ++ List.replicate j 0
theorem Aqf {q j : Nat} {u : List Int} (hu : u.length = q) (hj : j ≤ q) : (gC q j u).length = q := by simp [gC]; omega
theorem Aot {q : Nat} {u : List Int} (hu : u.length = q) : gC q 0 u = u := by
 subst hu
 simp [gC]
theorem Aod (q : Nat) (u : List Int) : gC q q u = List.replicate q 0 := by simp [gC]
theorem Am6 {q j : Nat} {u : List Int} (hu : u.length = q) (hj : j < q) : (gC q j u).getD (q - 1 - j) 0 = u.getD (q - 1 - j) 0 := by
 unfold gC
 rw [List.getD_eq_getElem?_getD, List.getElem?_append_left (by simp; omega), List.getElem?_take, if_pos (by omega), ← List.getD_eq_getElem?_getD]
theorem Arf {q j : Nat} {u : List Int} (hu : u.length = q) (hj : j < q) : u.take (q - j) = u.take (q - 1 - j) ++ [u.getD (q - 1 - j) 0] := by
 rw [show q - j = (q - 1 - j) + 1 by omega, List.take_add_one, List.getD_eq_getElem?_getD, List.getElem?_eq_getElem (by omega)]; rfl
theorem X1 {q j : Nat} {u : List Int} (hu : u.length = q) (hj : j < q) (x : Int) : (gC q j u).set (q - 1 - j) x = u.take (q - 1 - j) ++ x :: List.replicate j 0 := by
 unfold gC
 rw [Arf hu hj, List.append_assoc, List.set_append_right _ _ (by simp; omega), show q - 1 - j - (u.take (q - 1 - j)).length = 0 by simp; omega]
 rfl
theorem Ajb {q j : Nat} {u : List Int} (hu : u.length = q) (hj : j < q) : (gC q j u).set (q - 1 - j) 0 = gC q (j + 1) u := by
 rw [X1 hu hj]
 unfold gC
 rw [show q - (j + 1) = q - 1 - j by omega]
 rfl
theorem Y2 {q j : Nat} {u : List Int} (hu : u.length = q) (hj : j < q) : u.drop (q - 1 - j) = u.getD (q - 1 - j) 0 :: u.drop (q - j) := by
 rw [show q - j = (q - 1 - j) + 1 by omega, List.getD_eq_getElem?_getD, List.getElem?_eq_getElem (show q - 1 - j < u.length by omega)]
 exact List.drop_eq_getElem_cons (by omega)
theorem Ahu {p : Int} {q j : Nat} {u : List Int} (hu : u.length = q) (hj : j < q) (hn : nx p (u.drop (q - j)) = none) (hx : u.getD (q - 1 - j) 0 + 1 < p) : nx p u = some ((gC q j u).set (q - 1 - j) (u.getD (q - 1 - j) 0 + 1)) := by
 have h1 := Aqt hn hx
 rw [← Y2 hu hj] at h1
 have h2 := U9 h1 (u.take (q - 1 - j))
 rw [List.take_append_drop] at h2
 rw [h2, X1 hu hj, List.length_drop, hu, show q - (q - j) = j by omega]
theorem Aqj {p : Int} {q j : Nat} {u : List Int} (hu : u.length = q) (hj : j < q) (hn : nx p (u.drop (q - j)) = none) (hx : ¬ u.getD (q - 1 - j) 0 + 1 < p) : nx p (u.drop (q - (j + 1))) = none := by
 rw [show q - (j + 1) = q - 1 - j by omega, Y2 hu hj]
 exact An5 hn hx
theorem T5 (p : Int) (hp : 0 ≤ p ∧ p ≤ 100000) (q : Nat) (hq : q ≤ 1000) (u : List Int) (hu : u.length = q) (hb : ∀ x ∈ u, 0 ≤ x ∧ x < p) :
   cM Tryz.prog 203 2 [aA p, .ref 1 [] 1 0 q] [none, some ⟨false, 1, ints u⟩]
     (fun d rt => d = .kb (nx p u).isSome ∧ rt = [none, some ⟨false, 1, ints ((nx p u).getD (List.replicate q 0))⟩]) := by
 refine eR Tryz.tabOk aE 2 _ Tryz.func203 rfl rfl ?_
 conv => whnf
 repeat' first | ((first | refine z0 ?_ | (refine zP (fun h => ?_) (fun h => ?_) <;> (try simp only [aB, aD] at h)) | refine zS ?_ | refine zV ?_ | (apply zI; refine zP aK ?_) | (apply zI; refine zP aH ?_) | refine zA ?_ | refine Alt.fst ?_ | refine Or.inl ?_) <;> conv => whnf) | fail
 refine aR Tryz.tabOk aE (α := Nat) (fun j => [(5, aA ((q : Int) - 1 - j))]) (fun j => [(1, some ⟨false, 1, ints (gC q j u)⟩)]) (fun j => j ≤ q ∧ nx p (u.drop (q - j)) = none) (fun j => q - j) (0) ?_ ?_ ?_
 · exact ⟨by omega, by rw [Nat.sub_zero, ← hu, List.drop_length]; rfl⟩
 · conv => whnf
   first | refine aG.autoR ?_ | refine aC.autoR ?_
   conv => whnf
   repeat' ((first | refine z1 ?_ | refine z2 ?_ | refine zV ?_ | refine zP bQ ?_ | refine zP bR ?_ | refine zP ?_ ?_ | exact trivial) <;> try (conv => whnf))
   all_goals rw [Aot hu]
 intro j hj
 obtain ⟨hj, hn⟩ := hj
 have hl := Aqf hu hj
 have hxx : j < q → 0 ≤ u.getD (q - 1 - j) 0 ∧ u.getD (q - 1 - j) 0 < p := fun h => hb _ (by rw [List.getD_eq_getElem?_getD, List.getElem?_eq_getElem (by omega)]; exact List.getElem_mem _)
 conv => whnf
 repeat' first | ((first | refine z0 ?_ | (refine zP (fun h => ?_) (fun h => ?_) <;> (try simp only [aB, aD] at h)) | refine zS ?_ | refine zV ?_ | (apply zI; refine zP aK ?_) | (apply zI; refine zP aH ?_) | refine zA ?_ | refine Alt.fst ?_ | refine Or.inl ?_) <;> conv => whnf) | fail
 · have hjq : j < q := by omega
   have hx := hxx hjq
   have hg := Am6 hu hjq
   have ei : ((q : Int) - 1 - (j : Int)).toNat = q - 1 - j := by omega
   repeat' first | ((first | refine z0 ?_ | (refine zP (fun h => ?_) (fun h => ?_) <;> (try simp only [aB, aD] at h)) | refine zS ?_ | refine zV ?_ | (apply zI; refine zP aK ?_) | (apply zI; refine zP aH ?_) | refine zA ?_ | refine Alt.fst ?_ | refine Or.inl ?_) <;> conv => whnf) | fail
   rw [ei, hg]
   repeat' first | ((first | refine z0 ?_ | (refine zP (fun h => ?_) (fun h => ?_) <;> (try simp only [aB, aD] at h)) | refine zV ?_ | (apply zI; refine zP aH ?_)) <;> conv => whnf) | fail
   · have hxp : u.getD (q - 1 - j) 0 + 1 < p := by assumption
     rw [ei, hg]
     repeat' first | ((first | refine z0 ?_ | (refine zP (fun h => ?_) (fun h => ?_) <;> (try simp only [aB, aD] at h)) | refine zV ?_ | (apply zI; refine zP aH ?_)) <;> conv => whnf) | fail
     have hu1 := Ahu hu hjq hn hxp
     have hwk := fun st => aC.autoR (kp := 2) (st := st) (st2 := ⟨[.kb true], [none, some ⟨false, 1, ints ((gC q j u).set (q - 1 - j) (u.getD (q - 1 - j) 0 + 1))⟩]⟩)
     refine ⟨.kb true, [none, some ⟨false, 1, ints ((gC q j u).set (q - 1 - j) (u.getD (q - 1 - j) 0 + 1))⟩], ⟨by rw [hu1]; rfl, by rw [hu1]; rfl⟩, hwk _ ?_⟩
     conv => whnf
     repeat' ((first | refine z1 ?_ | refine z2 ?_ | refine zV ?_ | refine zP ?_ ?_ | exact trivial) <;> try (conv => whnf))
     all_goals rw [ei]
   · have hxp : ¬ u.getD (q - 1 - j) 0 + 1 < p := by assumption
     refine Exists.intro (j + 1) (zP ⟨by omega, Aqj hu hjq hn hxp⟩ (zP (by omega) ?_))
     first | refine aG.autoR ?_ | refine aC.autoR ?_
     conv => whnf
     repeat' ((first | refine z1 ?_ | refine z2 ?_ | refine zV ?_ | refine zP bQ ?_ | refine zP bR ?_ | refine zP ?_ ?_ | exact trivial) <;> try (conv => whnf))
     all_goals first | (rw [ei, Ajb hu hjq]; done) | omega
 · have hjq : j = q := by omega
   subst hjq
   rw [Nat.sub_self, List.drop_zero] at hn
   have hwk := fun st => aC.autoR (kp := 2) (st := st) (st2 := ⟨[.kb false], [none, some ⟨false, 1, ints (List.replicate j 0)⟩]⟩)
   refine ⟨.kb false, [none, some ⟨false, 1, ints (List.replicate j 0)⟩], ⟨by rw [hn]; rfl, by rw [hn]; rfl⟩, hwk _ ?_⟩
   conv => whnf
   repeat' ((first | refine z1 ?_ | refine z2 ?_ | refine zV ?_ | refine zP ?_ ?_ | exact trivial) <;> try (conv => whnf))
   rw [Aod]
theorem O3 (p : Int) (hp : 0 ≤ p ∧ p ≤ 100000) (q : Nat) (hq : q ≤ 1000) (u v : List Int) (hu : u.length = q) (hb : ∀ x ∈ u, 0 ≤ x ∧ x < p) (hn : nx p u = some v) :
   cM Tryz.prog 203 2 [aA p, .ref 1 [] 1 0 q] [none, some ⟨false, 1, ints u⟩] (fun d rt => d = .kb true ∧ rt = [none, some ⟨false, 1, ints v⟩]) := by
 have := T5 p hp q hq u hu hb
 simp only [hn] at this
 exact this
theorem L5 (p : Int) (hp : 0 ≤ p ∧ p ≤ 100000) (q : Nat) (hq : q ≤ 1000) (u : List Int) (hu : u.length = q) (hb : ∀ x ∈ u, 0 ≤ x ∧ x < p) (hn : nx p u = none) :
   cM Tryz.prog 203 2 [aA p, .ref 1 [] 1 0 q] [none, some ⟨false, 1, ints u⟩] (fun d rt => d = .kb false ∧ rt = [none, some ⟨false, 1, ints (List.replicate q 0)⟩]) := by
 have := T5 p hp q hq u hu hb
 simp only [hn] at this
 exact this
theorem Ae0 (a b : Nat) : ((a : Int)).tdiv (b : Int) = ((a / b : Nat) : Int) := by
 rw [Int.tdiv_eq_ediv_of_nonneg (by omega)]; rfl
theorem Aiy (e : Eu) : ((e.r / e.s : Nat) : Int) * (e.s : Int) = ((e.r / e.s * e.s : Nat) : Int) := by rw [Int.natCast_mul]
theorem Al5 (e : Eu) : e.r / e.s * e.s ≤ e.r := Nat.div_mul_le_self _ _
theorem Al0 (e : Eu) : ((e.r / e.s : Nat) : Int) * e.Y = sg (!e.b) (e.r / e.s * e.y) := by
 unfold Eu.Y
 cases e.b
 · simp only [sg, Bool.not_false, if_true, Int.natCast_mul]
 · simp only [sg, Bool.not_true, Bool.false_eq_true, if_false, Int.natCast_mul, Int.mul_neg]
theorem S7 {m : Int} (hm : Md m) {e : Eu} (he : e.Ok m.toNat) (hs : e.s ≠ 0) :
   eO .i64 ((e.r / e.s : Nat) : Int) ∧ eO .i64 (((e.r / e.s : Nat) : Int) * e.s) ∧ eO .i64 ((e.r : Int) - ((e.r / e.s : Nat) : Int) * e.s) ∧ eO .i64 (((e.r / e.s : Nat) : Int) * e.Y) ∧ eO .i64 (e.X - ((e.r / e.s : Nat) : Int) * e.Y) := by
 have h1 := hm.1
 have h2 := hm.2
 have h3 := he.2.2.1
 have h4 := Eu.qy_le he hs
 have h5 := Eu.x_le he hs
 have h6 := Al5 e
 have h7 : e.r / e.s ≤ e.r := Nat.div_le_self _ _
 have h8 := Afb (!e.b) (e.r / e.s * e.y)
 have h9 := Afb e.b e.x
 rw [Aiy, Al0]
 unfold Eu.X
 generalize sg (!e.b) (e.r / e.s * e.y) = A at *
 generalize sg e.b e.x = B at *
 generalize e.r / e.s * e.y = C at *
 generalize e.r / e.s * e.s = E at *
 generalize e.r / e.s = q at *
 exact ⟨iT (by omega) (by omega), iT (by omega) (by omega), iT (by omega) (by omega), iT (by omega) (by omega), iT (by omega) (by omega)⟩
theorem U8 {m a : Int} {e : Eu} (hr : e.run = (rO m a).run) (hs : e.s = 0) : e.X % m = (aY m a).val := by
 rw [Eu.run_zero hs] at hr
 unfold aY
 rw [Zm.val_mk, hr]
theorem Asw {m : Int} (hm : Md m) (a : Int) : aL Tryz.prog 220 [aA m, aA a] (aA (aY m a).val) := by
 have hm1 := hm.1
 have hm2 := hm.2
 have ha := Int.emod_nonneg a (show m ≠ 0 by omega)
 have ha2 := Int.emod_lt_of_pos a (show 0 < m by omega)
 refine cF Tryz.tabOk aE Tryz.func220 rfl rfl ?_
 conv => whnf
 repeat' first | ((first | refine z0 ?_ | (apply zI; refine zP (oV _ _ hm.pos (by omega)) ?_) | (refine zP (fun h => ?_) (fun h => ?_) <;> (try simp only [aB, aD] at h)) | refine zV ?_ | refine Or.inl ?_) <;> conv => whnf) | fail
 refine dZ Tryz.tabOk aE (α := Eu) (fun e => [(5, aA e.X), (6, aA e.Y), (7, aA e.r), (8, aA e.s)]) (fun e => []) (fun e => e.Ok m.toNat ∧ e.run = (rO m a).run) (fun e => e.s) (rO m a) ?_ ?_ ?_
 · exact ⟨Aaq hm.1, rfl⟩
 · conv => whnf
   first | refine aG.auto ?_ | refine aC.auto ?_
   conv => whnf
   repeat' ((first | refine z1 ?_ | refine z2 ?_ | refine zV ?_ | refine zP bQ ?_ | refine zP bR ?_ | refine zP ?_ ?_ | exact trivial) <;> try (conv => whnf))
   · show m = ((m.toNat : Nat) : Int); omega
   · show a % m = (((a % m).toNat : Nat) : Int); omega
 intro e ⟨he, hr⟩
 conv => whnf
 repeat' first | ((first | refine z0 ?_ | (apply zI; refine zP (oV _ _ hm.pos (by omega)) ?_) | (refine zP (fun h => ?_) (fun h => ?_) <;> (try simp only [aB, aD] at h)) | refine zV ?_ | refine Or.inl ?_) <;> conv => whnf) | fail
 · have hs : e.s ≠ 0 := by omega
   obtain ⟨f1, f2, f3, f4, f5⟩ := S7 hm he hs
   rw [Ae0]
   repeat' first | ((first | refine z0 ?_ | (apply zI; refine zP (oV _ _ hm.pos (by omega)) ?_) | (refine zP (fun h => ?_) (fun h => ?_) <;> (try simp only [aB, aD] at h)) | refine zV ?_ | refine Or.inl ?_) <;> conv => whnf) | fail
   refine Exists.intro e.next (zP ⟨Eu.next_ok he hs, (Eu.run_next hs).trans hr⟩ (zP (Eu.next_lt e hs) ?_))
   first | refine aG.auto ?_ | refine aC.auto ?_
   conv => whnf
   repeat' ((first | refine z1 ?_ | refine z2 ?_ | refine zV ?_ | refine zP bQ ?_ | refine zP bR ?_ | refine zP ?_ ?_ | exact trivial) <;> try (conv => whnf))
   all_goals first | exact (Eu.next_Y e).symm | exact (Eu.next_s e).symm
 · exact congrArg aA (U8 hr (by omega))
theorem D2 {m : Int} (hm : Md m) (a : Int) : aL Tryz.prog 299 [aA m, aA a] (aA (aY m a).val) := by
 have hm1 := hm.1
 have hm2 := hm.2
 have ha := Int.emod_nonneg a (show m ≠ 0 by omega)
 have ha2 := Int.emod_lt_of_pos a (show 0 < m by omega)
 refine cF Tryz.tabOk aE Tryz.func299 rfl rfl ?_
 conv => whnf
 repeat' first | ((first | refine z0 ?_ | (apply zI; refine zP (nI _ _ hm.pos (by omega)) ?_) | (refine zP (fun h => ?_) (fun h => ?_) <;> (try simp only [aB, aD] at h)) | refine zV ?_ | refine Or.inl ?_) <;> conv => whnf) | fail
 refine dZ Tryz.tabOk aE (α := Eu) (fun e => [(7, aA e.X), (8, aA e.Y), (5, aA e.r), (6, aA e.s)]) (fun e => []) (fun e => e.Ok m.toNat ∧ e.run = (rO m a).run) (fun e => e.s) (rO m a) ?_ ?_ ?_
 · exact ⟨Aaq hm.1, rfl⟩
 · conv => whnf
   first | refine aG.auto ?_ | refine aC.auto ?_
   conv => whnf
   repeat' ((first | refine z1 ?_ | refine z2 ?_ | refine zV ?_ | refine zP bQ ?_ | refine zP bR ?_ | refine zP ?_ ?_ | exact trivial) <;> try (conv => whnf))
   · show m = ((m.toNat : Nat) : Int); omega
   · show a % m = (((a % m).toNat : Nat) : Int); omega
 intro e ⟨he, hr⟩
 conv => whnf
 repeat' first | ((first | refine z0 ?_ | (apply zI; refine zP (nI _ _ hm.pos (by omega)) ?_) | (refine zP (fun h => ?_) (fun h => ?_) <;> (try simp only [aB, aD] at h)) | refine zV ?_ | refine Or.inl ?_) <;> conv => whnf) | fail
 · have hs : e.s ≠ 0 := by omega
   obtain ⟨f1, f2, f3, f4, f5⟩ := S7 hm he hs
   rw [Ae0]
   repeat' first | ((first | refine z0 ?_ | (apply zI; refine zP (nI _ _ hm.pos (by omega)) ?_) | (refine zP (fun h => ?_) (fun h => ?_) <;> (try simp only [aB, aD] at h)) | refine zV ?_ | refine Or.inl ?_) <;> conv => whnf) | fail
   refine Exists.intro e.next (zP ⟨Eu.next_ok he hs, (Eu.run_next hs).trans hr⟩ (zP (Eu.next_lt e hs) ?_))
   first | refine aG.auto ?_ | refine aC.auto ?_
   conv => whnf
   repeat' ((first | refine z1 ?_ | refine z2 ?_ | refine zV ?_ | refine zP bQ ?_ | refine zP bR ?_ | refine zP ?_ ?_ | exact trivial) <;> try (conv => whnf))
   all_goals first | exact (Eu.next_Y e).symm | exact (Eu.next_s e).symm
 · exact congrArg aA (U8 hr (by omega))
end Go.Proofs
namespace Go.Proofs
open Go Go.Vm Go.Fg Go.Fg.PS
set_option maxRecDepth 100000
set_option maxHeartbeats 4000000
set_option linter.unusedSimpArgs false
set_option linter.unusedVariables false
variable {m : Int}
theorem xC (hm : Md m) (a : Int) (k : Nat) (hk : k ≤ 4611686018427387904) {K : Int} (hK : K = k) : aL Tryz.prog 337 [aA m, aA a, aA K] (aA (pw (Zm.mk m a) k).val) := by
 subst hK
 have hm1 := hm.1
 have hm2 := hm.2
 refine cF Tryz.tabOk aE Tryz.func337 rfl rfl ?_
 conv => whnf
 repeat' first | ((first | refine z0 ?_ | (apply zI; refine zP (nI _ _ hm.pos (by omega)) ?_) | (refine zP (fun h => ?_) (fun h => ?_) <;> (try simp only [aB, aD] at h)) | refine zV ?_ | refine Or.inl ?_) <;> conv => whnf) | fail
 refine dZ Tryz.tabOk aE (α := Zm m × Zm m × Nat) (fun x => [(7, aA x.1.val), (1, aA x.2.1.val), (2, aA x.2.2)]) (fun x => []) (fun x => x.1 * pw x.2.1 x.2.2 = pw (Zm.mk m a) k ∧ x.2.2 ≤ 4611686018427387904) (fun x => x.2.2) (1, Zm.mk m a, k) ?_ ?_ ?_
 · exact ⟨CR.one_mul _, hk⟩
 · conv => whnf
   first | refine aG.auto ?_ | refine aC.auto ?_
   conv => whnf
   repeat' ((first | refine z1 ?_ | refine z2 ?_ | refine zV ?_ | refine zP bQ ?_ | refine zP bR ?_ | refine zP ?_ ?_ | exact trivial) <;> try (conv => whnf))
   all_goals exact Zm.tmod_val (by omega) rfl
 intro ⟨x, y, q⟩ ⟨hx, hq⟩
 simp only at hx hq
 conv => whnf
 repeat' first | ((first | refine z0 ?_ | (refine zP (fun h => ?_) (fun h => ?_) <;> (try simp only [aB, aD] at h)) | refine zS ?_ | refine zV ?_ | (apply zI; refine zP aH ?_) | refine Or.inl ?_) <;> conv => whnf) | fail
 · refine Exists.intro (x * y, y * y, q / 2) (zP ⟨by simp only; rw [Ai9 x y (by rw [fS] at *; omega)]; exact hx, by simp only; omega⟩ (zP (by simp only; omega) ?_))
   first | refine aG.auto ?_ | refine aC.auto ?_
   conv => whnf
   repeat' ((first | refine z1 ?_ | refine z2 ?_ | refine zV ?_ | refine zP bQ ?_ | refine zP bR ?_ | refine zP ?_ ?_ | exact trivial) <;> try (conv => whnf))
   all_goals first | exact fF hm _ _ | exact tR _
 · refine Exists.intro (x, y * y, q / 2) (zP ⟨by simp only; rw [Apa x y (by rw [fS] at *; omega)]; exact hx, by simp only; omega⟩ (zP (by simp only; omega) ?_))
   first | refine aG.auto ?_ | refine aC.auto ?_
   conv => whnf
   repeat' ((first | refine z1 ?_ | refine z2 ?_ | refine zV ?_ | refine zP bQ ?_ | refine zP bR ?_ | refine zP ?_ ?_ | exact trivial) <;> try (conv => whnf))
   all_goals first | exact fF hm _ _ | exact tR _
 · refine congrArg aA ?_
   rw [show q = 0 by omega, pw_zero, Go.Fg.mul_one] at hx
   rw [hx]
theorem Y7 (n : Nat) {d : Int} (hd : d + 1 = n) (hn : 2 ≤ n ∧ n ≤ 100) (hm : Md m) : aL Tryz.prog 123 [aA m, aA d] (eI m true n (PS.X : PS (Zm m))) := by
 have hm1 := hm.1
 refine cF Tryz.tabOk aE Tryz.func123 rfl rfl ?_
 conv => whnf
 repeat' first | ((first | refine z0 ?_ | (apply zI; refine zP (qW n hd aF) ?_) | refine zV ?_ | (apply zI; refine zP aH ?_) | refine Or.inl ?_) <;> conv => whnf) | fail
 refine sZ (eW (1 : Zm m) (Zm.val_one (by omega)).symm (fun i hi => ?_))
 rw [cL, qN]; split <;> rfl
end Go.Proofs
namespace Go.Proofs
open Go Go.Vm Go.Fg
set_option maxRecDepth 100000
set_option maxHeartbeats 4000000
set_option linter.unusedSimpArgs false
set_option linter.unusedVariables false
def H6 (k : Int) : List (List Int) → List (List Int)
 | [] => []
 | l :: t => marks k l.length :: H6 (k + l.length) t
@[simp] theorem Aso (k : Int) (t : List (List Int)) : (H6 k t).length = t.length := by
 induction t generalizing k with
 | nil => rfl
 | cons l t ih => simp [H6, ih]
def dP (t : List (List Int)) : Prop := ∀ i, i < t.length → (t.getD i []).length ≤ 1048576
theorem Asc {t t' : List (List Int)} (h : t.length = t'.length) (h2 : ∀ j, j < t.length → t.getD j [] = t'.getD j []) : t = t' := by
 refine List.ext_getElem h (fun j k1 k2 => ?_)
 have := h2 j k1
 simpa [k1, k2] using this
theorem Abi {m : Int} {n : Nat} (hn : n ≤ 1000) (f : PS (PS (Zm m))) : dP (Tb n f) := fun i hi => by
 have hi' : i < n := by simpa using hi
 rw [lO f hi']; simp; omega
end Go.Proofs
namespace Go.Proofs
open Go Go.Vm Go.Fg Go.Fg.PS
set_option maxRecDepth 100000
set_option maxHeartbeats 4000000
set_option linter.unusedSimpArgs false
set_option linter.unusedVariables false
variable {m : Int}
theorem oZ : Af4 Tryz.prog 97 := fun m b n c => by
 refine cF Tryz.tabOk aE Tryz.func97 rfl rfl ?_
 conv => whnf
 repeat' first | ((first | refine z0 ?_ | (refine zP (fun h => ?_) (fun h => ?_) <;> (try simp only [aB, aD] at h)) | refine zS ?_ | refine zV ?_ | (apply zI; refine zP aK ?_) | (apply zI; refine zP aH ?_) | refine zA ?_ | refine Alt.fst ?_ | refine Or.inl ?_) <;> conv => whnf) | fail
end Go.Proofs
