import Derived.Test.YtndhpcigpghejaaGreatK28
namespace Go.Proofs
open Go Go.Vm Go.Fg Go.Fg.PS
set_option maxRecDepth 100000
set_option maxHeartbeats 4000000
set_option linter.unusedSimpArgs false
set_option linter.unusedVariables false
variable {m : Int}
def tbs (n : Nat) (g : Nat → PS (PS (Zm m))) (k : Nat) : List D := (List.range k).map fun c => .list true 1 (rows true (Tb n (g c)))
@[simp] theorem tbs_length (n : Nat) (g : Nat → PS (PS (Zm m))) (k : Nat) : (tbs n g k).length = k := by simp [tbs]
theorem one_list (cs : List D) : ∀ d ∈ [D.list true 1 cs], d.one = true := fun d hd => by
 simp only [List.mem_cons, List.not_mem_nil, or_false] at hd
 subst hd; rfl
theorem vTlen {n q k : Nat} {g : Nat → PS (PS (Zm m))} (e : q = k) : q = (tbs n g k).length := by rw [tbs_length]; exact e
theorem tbs_push {n k : Nat} {g : Nat → PS (PS (Zm m))} {t : List D} (h : t = rows true (Tb n (g k))) : tbs n g k ++ [.list true 1 t] = tbs n g (k + 1) := by
 subst h; simp [tbs, List.range_succ]
theorem tbs_at {n k i : Nat} {g : Nat → PS (PS (Zm m))} (h : i < k) : (tbs n g k)[i]? = some (.list true 1 (rows true (Tb n (g i)))) := by
 simp [tbs, h]
theorem tbs_g {n k q : Nat} {g : Nat → PS (PS (Zm m))} (c : Nat) (e : q = c) (h : c < k) : getB (tbs n g k) ([] ++ [q]) = some (rows true (Tb n (g c))) := by
 subst e
 show (match (tbs n g k)[q]? with | some (.list true _ cs') => getB cs' [] | _ => none) = _
 rw [tbs_at h]; rfl
theorem vT3a {n k q : Nat} {g : Nat → PS (PS (Zm m))} (c : Nat) (e : q = c) (h : c < k) : LoadRow (tbs n g k) [] q (.list true 1 (rows true (Tb n (g c)))) := by
 subst e; exact ⟨_, rfl, tbs_at h⟩
theorem vT3b {n k q r : Nat} {g : Nat → PS (PS (Zm m))} (c a : Nat) (e : q = c) (e2 : r = a) (h : c < k) (h2 : a < n) : LoadRow (tbs n g k) ([] ++ [q]) r (.list true 1 (ints (L (n - a) ((g c).c a)))) := by
 subst e; subst e2
 refine ⟨_, tbs_g q rfl h, ?_⟩
 have := rows_get (o := true) (t := Tb n (g q)) (i := r) (by simpa using h2)
 rw [this, Tb_getD _ h2]
theorem vT3c {n k q r s : Nat} {g : Nat → PS (PS (Zm m))} (c a b : Nat) (e : q = c) (e2 : r = a) (e3 : s = b) (h : c < k) (h2 : a + b < n) : LoadRow (tbs n g k) ([] ++ [q] ++ [r]) s (dint ((((g c).c a).c b)).val) := by
 subst e; subst e2; subst e3
 refine ⟨ints (L (n - r) ((g q).c r)), ?_, ?_⟩
 · show (match (tbs n g k)[q]? with | some (.list true _ cs') => getB cs' [r] | _ => none) = _
   rw [tbs_at h]
   show (match (rows true (Tb n (g q)))[r]? with | some (.list true _ cs') => getB cs' [] | _ => none) = _
   rw [rows_get (o := true) (t := Tb n (g q)) (i := r) (by simp; omega), Tb_getD _ (by omega)]
   rfl
 · simp [ints, L, show s < n - r by omega]
def colS (f : PS (PS (Zm m))) (j : Nat) : PS (Zm m) := ⟨fun i => (f.c i).c j⟩
theorem comp2_cc (a : PS (Zm m)) (f : PS (PS (Zm m))) (k p q : Nat) : ((comp2N a f 0 k).c p).c q = sm k fun i => a.c i * ((pw f i).c p).c q := by
 unfold comp2N
 rw [sm_c, sm_c]
 refine sm_congr (fun i _ => ?_)
 rw [C_mul, C_mul, Nat.zero_add]
theorem lft_eq (f : PS (PS (Zm m))) (n a b c : Nat) : ((comp2N (colS f c) f 0 (n - c)).c a).c b = lft f n a b c := comp2_cc _ _ _ _ _
theorem rgt_eq (f : PS (PS (Zm m))) (n a b c : Nat) : ((comp2N (f.c a) f 0 (n - a)).c b).c c = rgt f n a b c := comp2_cc _ _ _ _ _
theorem c_l04Column (o p : Bool) (n : Nat) (hn : 1 ≤ n ∧ n ≤ 100) (f : PS (PS (Zm m))) (j : Nat) (hj : j ≤ n) : PureCall Tryz.prog 449 [TbD o p n f, dint j] (LD true (n - j) (colS f j)) := by
 refine pure_of_vcR Tryz.tabOk mixOrd Tryz.func449 rfl rfl ?_
 conv => whnf
 repeat' first | ((first | refine z0 ?_ | (refine And.intro (fun h => ?_) (fun h => ?_) <;> (try simp only [cnt1, ints_length] at h)) | refine zS ?_ | refine zV ?_ | (apply zI; refine zP vObt ?_) | (apply zI; refine zP vObx ?_) | refine zA ?_ | refine Alt.fst ?_ | refine Or.inl ?_) <;> conv => whnf) | fail
 refine loop_atR Tryz.tabOk mixOrd (α := Nat) (fun i => [(6, dint i), (5, .ref 0 [] 1 0 i), (7, .undef)]) (fun i => [(0, some ⟨false, 1, ints (L i (colS f j))⟩)]) (fun i => i + j ≤ n) (fun i => n - i) (0) ?_ ?_ ?_
 · omega
 · conv => whnf
   first | refine WeakS.autoR ?_ | refine Weak.autoR ?_
   conv => whnf
   repeat' ((first | refine z1 ?_ | refine And.intro ?_ ?_ | exact trivial) <;> try (conv => whnf))
 intro i hi
 conv => whnf
 repeat' first | ((first | refine z0 ?_ | (refine And.intro (fun h => ?_) (fun h => ?_) <;> (try simp only [cnt1, ints_length] at h)) | refine zS ?_ | refine zV ?_ | (apply zI; refine zP vObt ?_) | (apply zI; refine zP vObx ?_) | refine zA ?_ | refine Alt.fst ?_ | refine Or.inl ?_) <;> conv => whnf) | fail
 · refine Exists.intro (i + 1) (And.intro vAr (And.intro vAr ?_))
   first | refine WeakS.autoR ?_ | refine Weak.autoR ?_
   conv => whnf
   repeat' ((first | refine z1 ?_ | refine And.intro ?_ ?_ | exact trivial) <;> try (conv => whnf))
   exact ints_congr (L_push rfl)
 · rw [show i = n - j by simp only [rows_length, Tb_length] at *; omega]
theorem c_l04IsL (hm : Md m) (o p : Bool) (n : Nat) (hn : 2 ≤ n ∧ n ≤ 11) (f : PS (PS (Zm m))) (hp : plB m (Tb n f) = true) : PureCall Tryz.prog 243 [PlD m o p n f] (dbool (trL (LawP f n))) := by
 have hm1 := hm.1
 have hm2 := hm.2
 have hli := c_l03Is o p m (Tb n f) (by simp; omega) (lensOk_Tb (by omega) f)
 rw [hp] at hli
 refine pure_of_vcR Tryz.tabOk mixOrd Tryz.func243 rfl rfl ?_
 conv => whnf
 repeat' first | ((first | refine z0 ?_ | (apply zI; refine zP (hli) ?_) | refine Or.inr (inl_ofR Tryz.tabOk mixOrd _ Tryz.func380 rfl rfl ?_) | (refine And.intro (fun h => ?_) (fun h => ?_) <;> (try simp only [cnt1, ints_length] at h)) | refine zS ?_ | refine Or.inl ?_) <;> conv => whnf) | fail
 · refine loop_atR Tryz.tabOk mixOrd (α := Nat) (fun i => [(5, dint i)]) (fun i => []) (fun i => i ≤ n ∧ ∀ k, k < i → (f.c k).c 0 = lin k) (fun i => n - i) (0) ?_ ?_ ?_
   · exact ⟨by omega, by omega⟩
   · conv => whnf
     first | refine WeakS.autoR ?_ | refine Weak.autoR ?_
     conv => whnf
     repeat' ((first | refine z1 ?_ | refine And.intro ?_ ?_ | exact trivial) <;> try (conv => whnf))
   intro i ⟨hi, hz⟩
   conv => whnf
   repeat' first | ((first | refine z0 ?_ | (refine And.intro (fun h => ?_) (fun h => ?_) <;> (try simp only [cnt1, ints_length] at h) <;> first | (exfalso; omega) | skip) | refine zS ?_ | refine zV ?_ | (apply zI; refine zP vObt ?_) | (apply zI; refine zP vObx ?_)) <;> conv => whnf) | fail
   · have hi' : i < n := by simp only [rows_length, Tb_length] at *; omega
     have h0 : ((f.c i).c 0).val ≠ 1 := by assumption
     exact dbool_congr (trL_no (fun hc => h0 (by rw [hc.1 i hi', lin, if_pos (by omega)]; exact Zm.val_one (by omega)))).symm
   · have hi' : i < n := by simp only [rows_length, Tb_length] at *; omega
     have he := Classical.not_not.1 h
     refine Exists.intro (i + 1) (And.intro ⟨by omega, lt_cases hz (Zm.val_inj (by rw [he, lin, if_pos (by omega)]; exact (Zm.val_one (by omega)).symm))⟩ (And.intro (by omega) ?_))
     first | refine WeakS.autoR ?_ | refine Weak.autoR ?_
     conv => whnf
     repeat' ((first | refine z1 ?_ | refine And.intro ?_ ?_ | exact trivial) <;> try (conv => whnf))
   · have hi' : i < n := by simp only [rows_length, Tb_length] at *; omega
     have h0 : ((f.c i).c 0).val ≠ 0 := by assumption
     exact dbool_congr (trL_no (fun hc => h0 (by rw [hc.1 i hi', lin, if_neg (by omega)]; exact Zm.val_eq_zero.2 rfl))).symm
   · have hi' : i < n := by simp only [rows_length, Tb_length] at *; omega
     have he := Zm.val_eq_zero.1 (Classical.not_not.1 h)
     refine Exists.intro (i + 1) (And.intro ⟨by omega, lt_cases hz (by rw [he, lin, if_neg (by omega)])⟩ (And.intro (by omega) ?_))
     first | refine WeakS.autoR ?_ | refine Weak.autoR ?_
     conv => whnf
     repeat' ((first | refine z1 ?_ | refine And.intro ?_ ?_ | exact trivial) <;> try (conv => whnf))
   · have hin : i = n := by simp only [rows_length, Tb_length] at *; omega
     subst hin
     refine loop_atR Tryz.tabOk mixOrd (α := Nat) (fun x => [(7, dint x)]) (fun x => []) (fun x => x ≤ i ∧ ∀ a b, a < x → a < b → a + b < i → (f.c a).c b = (f.c b).c a) (fun x => i - x) (0) ?_ ?_ ?_
     · exact ⟨by omega, by omega⟩
     · conv => whnf
       first | refine WeakS.autoR ?_ | refine Weak.autoR ?_
       conv => whnf
       repeat' ((first | refine z1 ?_ | refine And.intro ?_ ?_ | exact trivial) <;> try (conv => whnf))
     intro x ⟨hx, hsy⟩
     conv => whnf
     repeat' first | ((first | refine z0 ?_ | (refine And.intro (fun h => ?_) (fun h => ?_) <;> (try simp only [cnt1, ints_length] at h) <;> first | (exfalso; omega) | skip) | refine zS ?_ | refine zV ?_ | (apply zI; refine zP vObt ?_) | (apply zI; refine zP vObx ?_)) <;> conv => whnf) | fail
     · refine loop_atR Tryz.tabOk mixOrd (α := Nat) (fun y => [(8, dint ((x : Int) + 1 + y))]) (fun y => []) (fun y => y ≤ i ∧ ∀ b, x < b → b < x + 1 + y → x + b < i → (f.c x).c b = (f.c b).c x) (fun y => i - y) (0) ?_ ?_ ?_
       · exact ⟨by omega, by omega⟩
       · conv => whnf
         first | refine WeakS.autoR ?_ | refine Weak.autoR ?_
         conv => whnf
         repeat' ((first | refine z1 ?_ | refine And.intro ?_ ?_ | exact trivial) <;> try (conv => whnf))
       intro y ⟨hy, hsx⟩
       conv => whnf
       have e1 : ((x : Int) + 1 + y).toNat = x + 1 + y := by omega
       repeat' first | ((first | refine z0 ?_ | (refine And.intro (fun h => ?_) (fun h => ?_) <;> (try simp only [cnt1, ints_length] at h) <;> first | (exfalso; omega) | skip) | refine zS ?_ | refine zV ?_ | (apply zI; refine zP vObt ?_) | (apply zI; refine zP vObx ?_)) <;> conv => whnf) | fail
       · have hy' : x + 1 + y < i - x := by simp only [rows_length, Tb_length] at *; omega
         have h0 : ((f.c x).c ((x : Int) + 1 + y).toNat).val ≠ ((f.c ((x : Int) + 1 + y).toNat).c x).val := by assumption
         rw [e1] at h0
         exact dbool_congr (trL_no (fun hc => h0 (by rw [hc.2.1 x (x + 1 + y) (by omega)]))).symm
       · have hy' : x + 1 + y < i - x := by simp only [rows_length, Tb_length] at *; omega
         rw [e1] at h
         refine Exists.intro (y + 1) (And.intro ⟨by omega, fun b h1 h2 h3 => ?_⟩ (And.intro (by omega) ?_))
         · rcases Nat.lt_or_ge b (x + 1 + y) with h' | h'
           · exact hsx b h1 h' h3
           · rw [show b = x + 1 + y by omega]; exact Zm.val_inj (Classical.not_not.1 h)
         first | refine WeakS.autoR ?_ | refine Weak.autoR ?_
         conv => whnf
         repeat' ((first | refine z1 ?_ | refine And.intro ?_ ?_ | exact trivial) <;> try (conv => whnf))
       · have hx' : x < i := by simp only [rows_length, Tb_length] at *; omega
         have hy' : ¬ x + 1 + y < i - x := by simp only [rows_length, Tb_length] at *; omega
         refine Exists.intro (x + 1) (And.intro ⟨by omega, fun a b h1 h2 h3 => ?_⟩ (And.intro (by omega) ?_))
         · rcases Nat.lt_or_ge a x with h' | h'
           · exact hsy a b h' h2 h3
           · have ea : a = x := by omega
             subst ea
             exact hsx b h2 (by omega) h3
         first | refine WeakS.autoR ?_ | refine Weak.autoR ?_
         conv => whnf
         repeat' ((first | refine z1 ?_ | refine And.intro ?_ ?_ | exact trivial) <;> try (conv => whnf))
     · have hxi : x = i := by simp only [rows_length, Tb_length] at *; omega
       have hsym : ∀ a b, a + b < i → (f.c a).c b = (f.c b).c a := fun a b hab => by
         rcases Nat.lt_trichotomy a b with h' | h' | h'
         · exact hsy a b (by omega) h' hab
         · rw [h']
         · exact (hsy b a (by omega) h' (by omega)).symm
       clear hsy
       refine loop_atR Tryz.tabOk mixOrd (α := Nat) (fun c => [(11, dint c), (9, .ref 3 [] 1 0 c), (10, .ref 4 [] 1 0 c), (69, .undef), (70, .undef)]) (fun c => [(3, some ⟨false, 1, tbs i (fun c => comp2N (colS f c) f 0 (i - c)) c⟩), (4, some ⟨false, 1, tbs i (fun a => comp2N (f.c a) f 0 (i - a)) c⟩)]) (fun c => c ≤ i) (fun c => i - c) (0) ?_ ?_ ?_
       · omega
       · conv => whnf
         first | refine WeakS.autoR ?_ | refine Weak.autoR ?_
         conv => whnf
         repeat' ((first | refine z1 ?_ | refine And.intro ?_ ?_ | exact trivial) <;> try (conv => whnf))
       intro c hc
       conv => whnf
       repeat' first | ((first | (apply zI; refine zP (c_l04Column _ _ i vAr f c vAr) ?_) | (apply zI; refine zP (c_l03After hm _ _ _ i vAr (i - c) vAr _ _) ?_) | (refine And.intro (fun h => ?_) (fun h => ?_) <;> (try simp only [cnt1, ints_length] at h) <;> first | (exfalso; omega) | skip) | refine zS ?_ | refine zV ?_ | (apply zI; refine zP vObx ?_) | refine And.intro (vTlen (by omega)) ?_ | refine And.intro (one_list _) ?_ | refine Alt.fst ?_ | refine Or.inl ?_) <;> conv => whnf) | fail
       · refine Exists.intro (c + 1) (And.intro vAr (And.intro vAr ?_))
         first | refine WeakS.autoR ?_ | refine Weak.autoR ?_
         conv => whnf
         repeat' ((first | refine z1 ?_ | refine And.intro ?_ ?_ | exact trivial) <;> try (conv => whnf))
         · exact tbs_push rfl
         · exact tbs_push rfl
       · have hci : c = i := by simp only [rows_length, Tb_length] at *; omega
         subst hci
         refine loop_atR Tryz.tabOk mixOrd (α := Nat) (fun a => [(12, dint a)]) (fun a => []) (fun a => a ≤ c ∧ ∀ a' b' c', a' < a → a' + b' + c' < c → lft f c a' b' c' = rgt f c a' b' c') (fun a => c - a) (0) ?_ ?_ ?_
         · exact ⟨by omega, by omega⟩
         · conv => whnf
           first | refine WeakS.autoR ?_ | refine Weak.autoR ?_
           conv => whnf
           repeat' ((first | refine z1 ?_ | refine And.intro ?_ ?_ | exact trivial) <;> try (conv => whnf))
         intro a ⟨ha, hal⟩
         conv => whnf
         repeat' first | ((first | refine z0 ?_ | (refine And.intro (fun h => ?_) (fun h => ?_) <;> (try simp only [cnt1, ints_length] at h) <;> first | (exfalso; omega) | skip) | refine zS ?_ | refine zV ?_ | (apply zI; refine zP vObt ?_) | (apply zI; refine zP vObx ?_)) <;> conv => whnf) | fail
         · refine loop_atR Tryz.tabOk mixOrd (α := Nat) (fun b => [(13, dint b)]) (fun b => []) (fun b => a + b ≤ c ∧ ∀ b' c', b' < b → a + b' + c' < c → lft f c a b' c' = rgt f c a b' c') (fun b => c - b) (0) ?_ ?_ ?_
           · exact ⟨by omega, by omega⟩
           · conv => whnf
             first | refine WeakS.autoR ?_ | refine Weak.autoR ?_
             conv => whnf
             repeat' ((first | refine z1 ?_ | refine And.intro ?_ ?_ | exact trivial) <;> try (conv => whnf))
           intro b ⟨hb, hbl⟩
           conv => whnf
           repeat' first | ((first | refine z0 ?_ | (refine And.intro (fun h => ?_) (fun h => ?_) <;> (try simp only [cnt1, ints_length] at h) <;> first | (exfalso; omega) | skip) | refine zS ?_ | refine zV ?_ | (apply zI; refine zP vObt ?_) | (apply zI; refine zP vObx ?_)) <;> conv => whnf) | fail
           · refine loop_atR Tryz.tabOk mixOrd (α := Nat) (fun d => [(14, dint d)]) (fun d => []) (fun d => a + b + d ≤ c ∧ ∀ c', c' < d → a + b + c' < c → lft f c a b c' = rgt f c a b c') (fun d => c - d) (0) ?_ ?_ ?_
             · exact ⟨by omega, by omega⟩
             · conv => whnf
               first | refine WeakS.autoR ?_ | refine Weak.autoR ?_
               conv => whnf
               repeat' ((first | refine z1 ?_ | refine And.intro ?_ ?_ | exact trivial) <;> try (conv => whnf))
             intro d ⟨hd, hdl⟩
             conv => whnf
             repeat' first | ((first | refine z0 ?_ | (apply zI; refine zP (vT3a d vIx vAr) ?_) | (apply zI; refine zP (vT3a a vIx vAr) ?_) | (apply zI; refine zP (vT3b d a vIx vIx vAr vAr) ?_) | (apply zI; refine zP (vT3b a b vIx vIx vAr vAr) ?_) | (apply zI; refine zP (vT3c d a b vIx vIx vIx vAr vAr) ?_) | (apply zI; refine zP (vT3c a b d vIx vIx vIx vAr vAr) ?_) | (refine And.intro (fun h => ?_) (fun h => ?_) <;> (try simp only [cnt1, ints_length] at h) <;> first | (exfalso; omega) | skip) | refine zS ?_ | refine zV ?_) <;> conv => whnf) | fail
             · have h0 : (((comp2N (colS f d) f 0 (c - d)).c a).c b).val ≠ (((comp2N (f.c a) f 0 (c - a)).c b).c d).val := by assumption
               exact dbool_congr (trL_no (fun hc => h0 (by rw [lft_eq, rgt_eq, hc.2.2 a b d (by omega)]))).symm
             · have he := Zm.val_inj (Classical.not_not.1 h)
               rw [lft_eq, rgt_eq] at he
               refine Exists.intro (d + 1) (And.intro ⟨by omega, fun c' h1 h2 => ?_⟩ (And.intro (by omega) ?_))
               · rcases Nat.lt_or_ge c' d with h' | h'
                 · exact hdl c' h' h2
                 · rw [show c' = d by omega]; exact he
               first | refine WeakS.autoR ?_ | refine Weak.autoR ?_
               conv => whnf
               repeat' ((first | refine z1 ?_ | refine And.intro ?_ ?_ | exact trivial) <;> try (conv => whnf))
             · refine Exists.intro (b + 1) (And.intro ⟨by simp only [rows_length, Tb_length] at *; omega, fun b' c' h1 h2 => ?_⟩ (And.intro (by simp only [rows_length, Tb_length] at *; omega) ?_))
               · rcases Nat.lt_or_ge b' b with h' | h'
                 · exact hbl b' c' h' h2
                 · have eb : b' = b := by omega
                   subst eb
                   exact hdl c' (by simp only [rows_length, Tb_length] at *; omega) h2
               first | refine WeakS.autoR ?_ | refine Weak.autoR ?_
               conv => whnf
               repeat' ((first | refine z1 ?_ | refine And.intro ?_ ?_ | exact trivial) <;> try (conv => whnf))
           · refine Exists.intro (a + 1) (And.intro ⟨by simp only [rows_length, Tb_length] at *; omega, fun a' b' c' h1 h2 => ?_⟩ (And.intro (by simp only [rows_length, Tb_length] at *; omega) ?_))
             · rcases Nat.lt_or_ge a' a with h' | h'
               · exact hal a' b' c' h' h2
               · have ea : a' = a := by omega
                 subst ea
                 exact hbl b' c' (by simp only [rows_length, Tb_length] at *; omega) h2
             first | refine WeakS.autoR ?_ | refine Weak.autoR ?_
             conv => whnf
             repeat' ((first | refine z1 ?_ | refine And.intro ?_ ?_ | exact trivial) <;> try (conv => whnf))
         · exact dbool_congr (trL_yes ⟨fun k hk => hz k hk, hsym, fun a' b' c' h' => hal a' b' c' (by simp only [rows_length, Tb_length] at *; omega) h'⟩).symm
         · exact absurd trivial h
 · exact absurd (by assumption) (show ¬ true = false by simp)
end Go.Proofs
