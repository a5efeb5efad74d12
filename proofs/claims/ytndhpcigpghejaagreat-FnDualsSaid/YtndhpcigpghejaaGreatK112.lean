import Derived.Test.YtndhpcigpghejaaGreatK1
import Derived.Test.YtndhpcigpghejaaGreatVm32
namespace Go.Proofs
open Go Go.Vm Go.Fg Go.Fg.PS
set_option maxRecDepth 100000
set_option maxHeartbeats 4000000
set_option linter.unusedSimpArgs false
set_option linter.unusedVariables false
variable {m : Int}
def frc1 (d : D) (k : D → Prop) : Prop := match d with
 | .ref r p sz off n => forceN r fun r => k (.ref r p sz off n)
 | .ptr r p off => forceN r fun r => k (.ptr r p off)
 | .lit v => forceV v fun v => k (.lit v)
 | d => k d
def frcL (f : D → (D → Prop) → Prop) : List D → (List D → Prop) → Prop
 | [], k => k []
 | d :: ds, k => f d fun d => frcL f ds fun ds => k (d :: ds)
def frcT (f : D → (D → Prop) → Prop) (d : D) (k : D → Prop) : Prop := match d with
 | .agg ds => frcL f ds fun ds => k (.agg ds)
 | .tup ds => frcL f ds fun ds => k (.tup ds)
 | .fn g fs cs => frcL f fs fun fs => frcL f cs fun cs => k (.fn g fs cs)
 | d => frc1 d k
def frc (d : D) (k : D → Prop) : Prop := frcT (frcT (frcT frc1)) d k
def frcR : List (Option Root) → (List (Option Root) → Prop) → Prop
 | [], k => k []
 | none :: rs, k => frcR rs fun rs => k (none :: rs)
 | some ⟨true, sz, cs⟩ :: rs, k => frcL frc cs fun cs => frcR rs fun rs => k (some ⟨true, sz, cs⟩ :: rs)
 | some ⟨false, sz, cs⟩ :: rs, k => frcR rs fun rs => k (some ⟨false, sz, cs⟩ :: rs)
theorem frc1_eq (d : D) (k : D → Prop) : frc1 d k = k d := by
 unfold frc1; split <;> simp only [forceN_eq, forceV_eq]
theorem frcL_eq {f : D → (D → Prop) → Prop} (hf : ∀ d k, f d k = k d) : ∀ (ds : List D) (k : List D → Prop), frcL f ds k = k ds
 | [], k => rfl
 | d :: ds, k => by simp only [frcL, hf, frcL_eq hf ds]
theorem frcT_eq {f : D → (D → Prop) → Prop} (hf : ∀ d k, f d k = k d) (d : D) (k : D → Prop) : frcT f d k = k d := by
 unfold frcT; split <;> simp only [frcL_eq hf, frc1_eq]
theorem frc_eq (d : D) (k : D → Prop) : frc d k = k d := frcT_eq (frcT_eq (frcT_eq frc1_eq)) d k
theorem frcR_eq : ∀ (rs : List (Option Root)) (k : List (Option Root) → Prop), frcR rs k = k rs
 | [], k => rfl
 | none :: rs, k => by simp only [frcR, frcR_eq rs]
 | some ⟨true, sz, cs⟩ :: rs, k => by simp only [frcR, frcL_eq frc_eq, frcR_eq rs]
 | some ⟨false, sz, cs⟩ :: rs, k => by simp only [frcR, frcR_eq rs]
theorem bor_of {P : Program} {p : Prop} {g : Nat} {fs cs args argsB : List D} {rt rtB : List (Option Root)} {K KB : D → List (Option Root) → Prop} {kp : Nat} (σ : List Nat) (h : CallsTo P g kp args (none :: rt) K) (hkp : 1 ≤ kp ∧ kp ≤ σ.length + 1)
   (hent : chk (Go.Vm.distinct (sigN σ)) (wkL (sigN σ) args (fs ++ argsB ++ cs) (wkRoots (sigN σ) rtB (sigN σ) (none :: rt) True)))
   (hK : ∀ d rt', K d rt' → rt'[0]? = some none ∧ kp ≤ rt'.length ∧ frc (renD (renI σ kp rtB.length) d) fun d => frcR (rtFin σ kp rtB rt') fun r => KB d r) : p ∨ borK P (.fn (.func g) fs cs) argsB rtB KB :=
 .inr (CallsTo.frame σ hkp h hent (fun d rt' hd => by
   obtain ⟨h1, h2, h3⟩ := hK d rt' hd
   rw [frc_eq, frcR_eq] at h3
   exact ⟨h1, h2, h3⟩))
theorem borA {P : Program} {p : Prop} {g : Nat} {fs cs args argsB : List D} {rt rtB : List (Option Root)} {K KB : D → List (Option Root) → Prop} {kp : Nat} (σ : List Nat) (h : CallsTo P g kp args (none :: rt) K)
   (hK : ∀ d rt', K d rt' → rt'[0]? = some none ∧ kp ≤ rt'.length ∧ frc (renD (renI σ kp rtB.length) d) fun d => frcR (rtFin σ kp rtB rt') fun r => KB d r) (hkp : 1 ≤ kp ∧ kp ≤ σ.length + 1 := by decide)
   (hent : chk (Go.Vm.distinct (sigN σ)) (wkL (sigN σ) args (fs ++ argsB ++ cs) (wkRoots (sigN σ) rtB (sigN σ) (none :: rt) True)) := by first | ((conv => whnf); (repeat' ((first | refine And.intro rfl ?_ | refine And.intro (eqV_int vAr) ?_ | refine And.intro vOb ?_ | exact trivial) <;> (conv => whnf))); (first | done | fail))) : p ∨ borK P (.fn (.func g) fs cs) argsB rtB KB :=
 bor_of σ h hkp hent hK
theorem wkA {kp : Nat} (σ : List (Option Nat)) {st st2 : St} (h : weakK kp σ st st2 := by first | ((conv => whnf); (repeat' ((first | refine And.intro rfl ?_ | refine And.intro (eqV_int vAr) ?_ | refine And.intro vOb ?_ | refine And.intro ?_ ?_ | exact trivial) <;> try (conv => whnf))); (first | done | fail))) : Weak kp st st2 := Weak.of σ h
def lM (w : Nat) (r : Nat → Int) : List Int := (List.range w).map r
def tM (N w : Nat) (M : Nat → Nat → Int) : List (List Int) := (List.range N).map fun i => lM w (M i)
@[simp] theorem lM_length (w : Nat) (r : Nat → Int) : (lM w r).length = w := by simp [lM]
@[simp] theorem tM_length (N w : Nat) (M : Nat → Nat → Int) : (tM N w M).length = N := by simp [tM]
end Go.Proofs
namespace Go.Proofs
open Go Go.Vm Go.Fg
set_option maxRecDepth 100000
set_option maxHeartbeats 4000000
set_option linter.unusedSimpArgs false
set_option linter.unusedVariables false
def byts (l : List Nat) : List D := l.map fun (b : Nat) => D.lit (Value.int IntKind.u8 (b : Int))
@[simp] theorem byts_length (l : List Nat) : (byts l).length = l.length := by simp [byts]
theorem byts_at {l : List Nat} {q i : Nat} (e : q = i) (h : i < l.length) : (byts l)[q]? = some (.lit (.int .u8 ((l.getD i 0 : Nat) : Int))) := by
 subst e
 simp [byts, h]
abbrev srcR (o : Bool) (l : List Nat) (a : Nat) (h : Int) : Root := ⟨true, 1, [.list o 1 (byts l), dint a, .lit (.int .u64 h)]⟩
theorem and24 (z : Int) : 0 ≤ IntKind.u64.wrap ((BitVec.ofInt IntKind.u64.bits z &&& BitVec.ofInt IntKind.u64.bits 16777215).toNat : Nat) ∧ IntKind.u64.wrap ((BitVec.ofInt IntKind.u64.bits z &&& BitVec.ofInt IntKind.u64.bits 16777215).toNat : Nat) ≤ 16777215 := by
 have h1 : (BitVec.ofInt IntKind.u64.bits z &&& BitVec.ofInt IntKind.u64.bits 16777215).toNat ≤ 16777215 := by
   rw [BitVec.toNat_and]
   exact Nat.le_trans Nat.and_le_right (by decide)
 generalize (BitVec.ofInt IntKind.u64.bits z &&& BitVec.ofInt IntKind.u64.bits 16777215).toNat = q at *
 have e : IntKind.u64.wrap (q : Int) = q := by
   simp [IntKind.wrap, IntKind.bits]
   omega
 rw [e]
 omega
theorem c_l01Next (o : Bool) (l : List Nat) (hb : ∀ b ∈ l, b < 256) (hl : l.length ≤ 4611686018427387904) (a : Nat) (ha : a ≤ l.length) (hs : Int) (n : Int) :
   CallsTo Tryz.prog 157 2 [.ptr 1 [] 0, dint n] [none, some (srcR o l a hs)]
     (fun d rt => ∃ (x : Int) (a' : Nat) (h' : Int), ((n < 1 → x = 0) ∧ (1 ≤ n → 0 ≤ x ∧ x < n)) ∧ a' ≤ l.length ∧ d = dint x ∧ rt = [none, some (srcR o l a' h')]) := by
 have hbyte : a < l.length → l.getD a 0 < 256 := fun h => hb _ (by rw [List.getD_eq_getElem?_getD, List.getElem?_eq_getElem h]; exact List.getElem_mem h)
 refine callsTo_of Tryz.tabOk mixOrd 2 _ Tryz.func157 rfl rfl ?_
 conv => whnf
 repeat' first | ((first | refine z0 ?_ | (refine And.intro (fun h => ?_) (fun h => ?_) <;> (try simp only [cnt1, ints_length] at h)) | refine zS ?_ | refine zV ?_ | (apply zI; refine zP vObt ?_) | (apply zI; refine zP vObx ?_) | refine zA ?_ | refine Alt.fst ?_ | refine Or.inl ?_) <;> conv => whnf) | fail
 · have hn1 : n < 1 := by assumption
   have hwk := fun st => Weak.autoR (kp := 2) (st := st) (st2 := ⟨[dint 0], [none, some (srcR o l a hs)]⟩)
   refine ⟨dint 0, [none, some (srcR o l a hs)], ⟨0, a, hs, ⟨fun _ => rfl, fun h => by omega⟩, ha, rfl, rfl⟩, hwk _ ?_⟩
   conv => whnf
   repeat' ((first | refine z1 ?_ | exact trivial) <;> try (conv => whnf))
 · have hn1 : ¬ n < 1 := by assumption
   generalize IntKind.u64.wrap (IntKind.u64.wrap (hs * 6364136223846793005) + 1442695040888963407) = H
   have hx := and24 (H.fdiv (2 ^ min (Int.toNat 33) IntKind.u64.bits))
   generalize IntKind.u64.wrap ((BitVec.ofInt IntKind.u64.bits (H.fdiv (2 ^ min (Int.toNat 33) IntKind.u64.bits)) &&& BitVec.ofInt IntKind.u64.bits 16777215).toNat : Nat) = X at hx ⊢
   repeat' first | ((first | refine z0 ?_ | (apply zI; refine zP (byts_at (i := a) vIx (by simp only [cnt1, byts_length] at *; omega)) ?_) | (refine And.intro (fun h => ?_) (fun h => ?_) <;> (try simp only [cnt1, ints_length] at h)) | refine zS ?_ | refine zV ?_) <;> conv => whnf) | fail
   · have hal : a < l.length := by simp only [byts_length] at *; omega
     have hby := hbyte hal
     repeat' first | ((first | refine z0 ?_ | (apply zI; refine zP (byts_at (i := a) vIx (by simp only [cnt1, byts_length] at *; omega)) ?_) | (refine And.intro (fun h => ?_) (fun h => ?_) <;> (try simp only [cnt1, ints_length] at h)) | refine zS ?_ | refine zV ?_) <;> conv => whnf) | fail
     have hwk := fun st => Weak.autoR (kp := 2) (st := st) (st2 := ⟨[dint ((X + ((l.getD a 0 : Nat) : Int)).tmod n)], [none, some (srcR o l (a + 1) H)]⟩)
     refine ⟨dint ((X + ((l.getD a 0 : Nat) : Int)).tmod n), [none, some (srcR o l (a + 1) H)], ⟨_, a + 1, H, ⟨fun h => by omega, fun h => ⟨Int.tmod_nonneg _ (by omega), Int.tmod_lt_of_pos _ (by omega)⟩⟩, hal, rfl, rfl⟩, hwk _ ?_⟩
     conv => whnf
     repeat' ((first | refine z1 ?_ | exact trivial) <;> try (conv => whnf))
   · have hwk := fun st => Weak.autoR (kp := 2) (st := st) (st2 := ⟨[dint (X.tmod n)], [none, some (srcR o l a H)]⟩)
     refine ⟨dint (X.tmod n), [none, some (srcR o l a H)], ⟨_, a, H, ⟨fun h => by omega, fun h => ⟨Int.tmod_nonneg _ (by omega), Int.tmod_lt_of_pos _ (by omega)⟩⟩, ha, rfl, rfl⟩, hwk _ ?_⟩
     conv => whnf
     repeat' ((first | refine z1 ?_ | exact trivial) <;> try (conv => whnf))
theorem c_l01From (o : Bool) (l : List Nat) (hb : ∀ b ∈ l, b < 256) (hl : l.length ≤ 4611686018427387904) :
   CallsTo Tryz.prog 156 1 [.list o 1 (byts l)] [none]
     (fun d rt => ∃ h' : Int, d = .ptr 1 [] 0 ∧ rt = [none, some (srcR o l 0 h')]) := by
 refine callsTo_of Tryz.tabOk mixOrd 1 _ Tryz.func156 rfl rfl ?_
 conv => whnf
 repeat' first | ((first | refine z0 ?_ | (refine And.intro (fun h => ?_) (fun h => ?_) <;> (try simp only [cnt1, ints_length] at h)) | refine zS ?_ | refine zV ?_ | (apply zI; refine zP vObt ?_) | (apply zI; refine zP vObx ?_) | refine zA ?_ | refine Alt.fst ?_ | refine Or.inl ?_) <;> conv => whnf) | fail
 refine loop_atR Tryz.tabOk mixOrd (α := Nat × Int) (fun x => [(4, dint x.1)]) (fun x => [(1, some (srcR o l 0 x.2))]) (fun x => x.1 ≤ l.length) (fun x => l.length - x.1) ((0, IntKind.u64.wrap (5113 + IntKind.u64.wrap (l.length : Nat)))) ?_ ?_ ?_
 · omega
 · conv => whnf
   first | refine WeakS.autoR ?_ | refine Weak.autoR ?_
   conv => whnf
   repeat' ((first | refine z1 ?_ | refine And.intro ?_ ?_ | exact trivial) <;> try (conv => whnf))
   rw [show cnt 1 (byts l) = l.length by rw [cnt1, byts_length]]
 intro ⟨i, hh⟩ hi
 simp only at hi
 conv => whnf
 repeat' first | ((first | refine z0 ?_ | (apply zI; refine zP (byts_at (i := i) vIx (by simp only [cnt1, byts_length] at *; omega)) ?_) | (refine And.intro (fun h => ?_) (fun h => ?_) <;> (try simp only [cnt1, ints_length] at h)) | refine zS ?_ | refine zV ?_) <;> conv => whnf) | fail
 · have hil : i < l.length := by simp only [byts_length] at *; omega
   refine Exists.intro (i + 1, IntKind.u64.wrap (IntKind.u64.wrap (IntKind.u64.wrap (hh * 1099511628211) + IntKind.u64.wrap ((l.getD i 0 : Nat) : Int)) + 11)) (And.intro hil (And.intro (by simp only; omega) ?_))
   first | refine WeakS.autoR ?_ | refine Weak.autoR ?_
   conv => whnf
   repeat' ((first | refine z1 ?_ | refine And.intro ?_ ?_ | exact trivial) <;> try (conv => whnf))
 · have hwk := fun st => Weak.autoR (kp := 1) (st := st) (st2 := ⟨[.ptr 1 [] 0], [none, some (srcR o l 0 hh)]⟩)
   refine ⟨.ptr 1 [] 0, [none, some (srcR o l 0 hh)], ⟨hh, rfl, rfl⟩, hwk _ ?_⟩
   conv => whnf
   repeat' ((first | refine z1 ?_ | exact trivial) <;> try (conv => whnf))
 · have hwk := fun st => Weak.autoR (kp := 1) (st := st) (st2 := ⟨[.ptr 1 [] 0], [none, some (srcR o l 0 hh)]⟩)
   refine ⟨.ptr 1 [] 0, [none, some (srcR o l 0 hh)], ⟨hh, rfl, rfl⟩, hwk _ ?_⟩
   conv => whnf
   repeat' ((first | refine z1 ?_ | exact trivial) <;> try (conv => whnf))
theorem c_l01Pick (o : Bool) (l : List Nat) (hb : ∀ b ∈ l, b < 256) (hl : l.length ≤ 4611686018427387904) (a : Nat) (ha : a ≤ l.length) (hs : Int) (xs : List Int) (hx : 1 ≤ xs.length ∧ xs.length ≤ 1000) :
   CallsTo Tryz.prog 178 3 [.ptr 1 [] 0, .ref 2 [] 1 0 xs.length] [none, some (srcR o l a hs), some ⟨false, 1, ints xs⟩]
     (fun d rt => ∃ (x : Int) (a' : Nat) (h' : Int), x ∈ xs ∧ a' ≤ l.length ∧ d = dint x ∧ rt = [none, some (srcR o l a' h'), some ⟨false, 1, ints xs⟩]) := by
 refine callsTo_of Tryz.tabOk mixOrd 3 _ Tryz.func178 rfl rfl ?_
 conv => whnf
 repeat' first | (refine borA [1] (c_l01Next o l hb hl a ha hs (xs.length : Int)) (fun d rt' hd => ?_)) | fail
 obtain ⟨x, a1, h1, hx1, ha1, rfl, rfl⟩ := hd
 refine ⟨rfl, by simp, ?_⟩
 conv => whnf
 have hx2 := hx1.2 (by omega)
 repeat' first | ((first | refine z0 ?_ | (refine And.intro (fun h => ?_) (fun h => ?_) <;> (try simp only [cnt1, ints_length] at h)) | refine zS ?_ | refine zV ?_ | (apply zI; refine zP vObt ?_) | (apply zI; refine zP vObx ?_) | refine zA ?_ | refine Alt.fst ?_ | refine Or.inl ?_) <;> conv => whnf) | fail
 have hmem : xs.getD x.toNat 0 ∈ xs := by
   rw [List.getD_eq_getElem?_getD, List.getElem?_eq_getElem (show x.toNat < xs.length by omega)]; exact List.getElem_mem _
 have hwk := fun st => Weak.autoR (kp := 3) (st := st) (st2 := ⟨[dint (xs.getD x.toNat 0)], [none, some (srcR o l a1 h1), some ⟨false, 1, ints xs⟩]⟩)
 refine ⟨dint (xs.getD x.toNat 0), [none, some (srcR o l a1 h1), some ⟨false, 1, ints xs⟩], ⟨_, a1, h1, hmem, ha1, rfl, rfl⟩, hwk _ ?_⟩
 conv => whnf
 repeat' ((first | refine z1 ?_ | exact trivial) <;> try (conv => whnf))
end Go.Proofs
