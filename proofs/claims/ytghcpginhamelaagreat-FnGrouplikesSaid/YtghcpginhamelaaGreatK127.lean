/- Parts of the proof. -/
import Derived.Test.YtghcpginhamelaaGreatK119
import Derived.Test.YtghcpginhamelaaGreatK16
import Derived.Test.YtghcpginhamelaaGreatK10
import Derived.Test.YtghcpginhamelaaGreatK33
import Derived.Test.YtghcpginhamelaaGreatAlg11
import Derived.Test.YtghcpginhamelaaGreatVm32
namespace Go.Proofs
open Go Go.Vm Go.Fg Go.Fg.PS
set_option maxRecDepth 100000
set_option maxHeartbeats 4000000
set_option linter.unusedSimpArgs false
set_option linter.unusedVariables false
theorem Amp (o p : Bool) (m : Int) (t : List (List Int)) (hl : t.length ≤ 1048576) (hr : dP t) :
   aL Tryz.prog 73 [.agg [aA m, .list o 1 (rows p t)]] (fK true m t) := by
 have key := vH o p m t hl hr
 by_cases h4 : kC m t = 0
 · obtain ⟨hk, hht, hq1, hq2⟩ := fJ h4
   obtain ⟨hb, hpr⟩ := fN hht
   obtain ⟨hp, hlw⟩ := hO hb
   obtain ⟨hm, h2, h3, _⟩ := fI hp
   rw [h4, if_pos rfl] at key
   have hge : 2 ≤ aI m t := mB hk hht
   obtain ⟨pp, rfl, hpp⟩ := tT hpr
   have hpw : pp ^ aI pp t ≤ 1000000 := Nat.le_trans (qA hpp (by omega)) (by omega)
   have hyes : D.tup [.list true 1 (rows true (ext pp (bU true (aI pp t) (aZ pp t)) (aI pp t) [])), aA 0] = fK true pp t := by rw [fK, if_pos h4]; rfl
   have ks := Apc pp (aI pp t) t.length (by omega) hm ⟨hge, by omega, by omega⟩ hpw o p (aZ pp t) (rfl : ((aI pp t : Nat) : Int) = aI pp t)
   simp only [cI, dY hp] at ks
   rw [← hyes]
   generalize ext pp (bU true (aI pp t) (aZ pp t)) (aI pp t) [] = R at *
   refine aX Tryz.tabOk aE Tryz.func73 rfl rfl ?_
   conv => whnf
   repeat' first | ((first | refine z0 ?_ | (apply zI; refine zP (key) ?_) | (apply zI; refine zP (ks) ?_) | (refine zP (fun h => ?_) (fun h => ?_) <;> (try simp only [aB, aD] at h) <;> first | (exfalso; omega) | skip) | refine zV ?_ | refine Or.inl ?_) <;> conv => whnf) | fail
 · rw [if_neg h4] at key
   refine aX Tryz.tabOk aE Tryz.func73 rfl rfl ?_
   conv => whnf
   repeat' first | ((first | refine z0 ?_ | (apply zI; refine zP (key) ?_) | (refine zP (fun h => ?_) (fun h => ?_) <;> (try simp only [aB, aD] at h) <;> first | (exfalso; omega) | skip) | refine Or.inl ?_) <;> conv => whnf) | fail
   rw [fK, if_neg h4]
theorem Ao1 (o p : Bool) (m : Int) (t : List (List Int)) (hl : t.length ≤ 1048576) (hr : dP t) :
   aL Tryz.prog 75 [.agg [aA m, .list o 1 (rows p t)]] (fK false m t) := by
 have key := vH o p m t hl hr
 by_cases h4 : kC m t = 0
 · obtain ⟨hk, hht, hq1, hq2⟩ := fJ h4
   obtain ⟨hb, hpr⟩ := fN hht
   obtain ⟨hp, hlw⟩ := hO hb
   obtain ⟨hm, h2, h3, _⟩ := fI hp
   rw [h4, if_pos rfl] at key
   have hge : 2 ≤ aI m t := mB hk hht
   obtain ⟨pp, rfl, hpp⟩ := tT hpr
   have hpw : pp ^ aI pp t ≤ 1000000 := Nat.le_trans (qA hpp (by omega)) (by omega)
   have hyes : D.tup [.list true 1 (rows true (ext pp (bU false (aI pp t) (aZ pp t)) (aI pp t) [])), aA 0] = fK false pp t := by rw [fK, if_pos h4]; rfl
   have ks := An8 pp (aI pp t) t.length (by omega) hm ⟨hge, by omega, by omega⟩ hpw o p (aZ pp t) (rfl : ((aI pp t : Nat) : Int) = aI pp t)
   simp only [cI, dY hp] at ks
   rw [← hyes]
   generalize ext pp (bU false (aI pp t) (aZ pp t)) (aI pp t) [] = R at *
   refine aX Tryz.tabOk aE Tryz.func75 rfl rfl ?_
   conv => whnf
   repeat' first | ((first | refine z0 ?_ | (apply zI; refine zP (key) ?_) | (apply zI; refine zP (ks) ?_) | (refine zP (fun h => ?_) (fun h => ?_) <;> (try simp only [aB, aD] at h) <;> first | (exfalso; omega) | skip) | refine zV ?_ | refine Or.inl ?_) <;> conv => whnf) | fail
 · rw [if_neg h4] at key
   refine aX Tryz.tabOk aE Tryz.func75 rfl rfl ?_
   conv => whnf
   repeat' first | ((first | refine z0 ?_ | (apply zI; refine zP (key) ?_) | (refine zP (fun h => ?_) (fun h => ?_) <;> (try simp only [aB, aD] at h) <;> first | (exfalso; omega) | skip) | refine Or.inl ?_) <;> conv => whnf) | fail
   rw [fK, if_neg h4]
theorem Adl {p : Nat} (hp : 0 < p) (good : List Int → Bool) (q : Nat) : ∀ u ∈ ext p good q [], u.length = q := fun u hu => by
 rw [ext_eq hp] at hu
 obtain ⟨h1, _⟩ := List.mem_filter.1 hu
 obtain ⟨N, _, rfl⟩ := List.mem_map.1 h1
 simp
end Go.Proofs
namespace Go.Proofs
open Go Go.Vm Go.Fg Go.Fg.PS
set_option maxRecDepth 100000
set_option maxHeartbeats 4000000
set_option linter.unusedSimpArgs false
set_option linter.unusedVariables false
variable {m : Int}
noncomputable def goodD {m : Int} (q : Nat) (f : PS (PS (Zm m))) (u : List Int) : Bool := (L q (gU f (rd m u) q (q - 1))).all (fun x => decide (x = 0))
theorem Apf {f : PS (PS (Zm m))} {a b : PS (Zm m)} (ha : ∀ i, a.c i = 0) (q n : Nat) : (kZ f a b q).c n = 0 := by
 show kG f a b q n q 0 = 0
 unfold kG
 rw [dH (fun i _ => dH (fun j _ => by rw [ha, Go.Fg.zero_mul, Go.Fg.zero_mul])), jJ, Go.Fg.add_zero]
theorem Age {f : PS (PS (Zm m))} {a : PS (Zm m)} (ha : ∀ i, a.c i = 0) (q : Nat) : ∀ e n, (gU f a q e).c n = 0
 | 0, n => ha n
 | e + 1, n => Apf (fun i => Age ha q e i) q n
theorem Agv (p q : Nat) (f : PS (PS (Zm (p : Int)))) : goodD q f (bH p q 0) = true := by
 unfold goodD
 rw [List.all_eq_true]
 intro x hx
 rw [decide_eq_true_iff]
 obtain ⟨i, hi, rfl⟩ := List.mem_map.1 hx
 rw [Age (fun i => ?_)]
 · exact Zm.val_zero
 · rw [rd_c, sH]
   have : (List.replicate q (0 : Int)).getD i 0 = 0 := by
     rw [List.getD_eq_getElem?_getD, List.getElem?_replicate]; split <;> rfl
   rw [this]; rfl
theorem Aqu {q : Nat} {l : List Int} (h : l.length = q) : l.all (fun x => decide (x = 0)) = decide (l = List.replicate q 0) := by
 rw [Bool.eq_iff_iff, decide_eq_true_iff, List.all_eq_true, List.eq_replicate_iff]
 constructor
 · exact fun h2 => ⟨h, fun b hb => of_decide_eq_true (h2 b hb)⟩
 · exact fun h2 x hx => decide_eq_true (h2.2 x hx)
theorem Ar8 (o o' : Bool) (l l' : List Int) (hl : l.length ≤ 1048576) : aL Tryz.prog 205 [.list o 1 (ints l), .list o' 1 (ints l')] (bD (decide (l = l'))) := by
 refine aX Tryz.tabOk aE Tryz.func205 rfl rfl ?_
 conv => whnf
 repeat' first | ((first | refine z0 ?_ | (refine zP (fun h => ?_) (fun h => ?_) <;> (try simp only [aB, aD] at h)) | refine zS ?_ | refine zV ?_ | (apply zI; refine zP aK ?_) | (apply zI; refine zP aH ?_) | refine zA ?_ | refine Alt.fst ?_ | refine Or.inl ?_) <;> conv => whnf) | fail
 · refine bO ?_
   rw [eq_comm, decide_eq_false_iff_not]
   intro e; subst e; simp_all
 · have hlen : l.length = l'.length := by omega
   refine aR Tryz.tabOk aE (α := Nat) (fun i => [(5, aA i)]) (fun i => []) (fun i => i ≤ l.length ∧ ∀ j, j < i → l.getD j 0 = l'.getD j 0) (fun i => l.length - i) (0) ?_ ?_ ?_
   · exact ⟨by omega, by omega⟩
   · conv => whnf
     first | refine aG.autoR ?_ | refine aC.autoR ?_
     conv => whnf
     repeat' ((first | refine z1 ?_ | refine z2 ?_ | refine zV ?_ | refine zP bQ ?_ | refine zP bR ?_ | refine zP ?_ ?_ | exact trivial) <;> try (conv => whnf))
   intro i hi
   conv => whnf
   repeat' first | ((first | refine z0 ?_ | (refine zP (fun h => ?_) (fun h => ?_) <;> (try simp only [aB, aD] at h)) | refine zS ?_ | refine zV ?_ | (apply zI; refine zP aK ?_) | (apply zI; refine zP aH ?_) | refine zA ?_ | refine Alt.fst ?_ | refine Or.inl ?_) <;> conv => whnf) | fail
   · refine bO ?_
     rw [eq_comm, decide_eq_false_iff_not]
     intro e; subst e
     simp_all
   · refine Exists.intro (i + 1) (zP ⟨by omega, kP hi.2 (by omega)⟩ (zP (by omega) ?_))
     first | refine aG.autoR ?_ | refine aC.autoR ?_
     conv => whnf
     repeat' ((first | refine z1 ?_ | refine z2 ?_ | refine zV ?_ | refine zP bQ ?_ | refine zP bR ?_ | refine zP ?_ ?_ | exact trivial) <;> try (conv => whnf))
   · refine bO ?_
     rw [eq_comm, decide_eq_true_iff]
     refine List.ext_getElem hlen (fun j h1 h2 => ?_)
     have := hi.2 j (by omega)
     simpa [List.getD_eq_getElem?_getD, h1, h2] using this
theorem Apr (p q N : Nat) (hp : 2 ≤ p ∧ p ≤ 7) (hm : Md (p : Int)) (hq : 2 ≤ q ∧ 2 * (q - 1) + 1 ≤ N ∧ N ≤ 11) (o o1 : Bool) (f : PS (PS (Zm (p : Int))))
   (key : aL Tryz.prog 194 [cI p o o1 N f, bD true] (.tup [aA q, aA 0])) :
   aL Tryz.prog 77 [cI p o o1 N f] (.tup [bD (decide ((ext p (goodD q f) q []).length = 1)), aA 0]) := by
 have hP : 0 < p ^ q := Nat.pow_pos (by omega)
 have kpw := H4 hm o o1 N q ⟨by omega, by omega, by omega⟩ f (rfl : (q : Int) = q)
 have hone := Ah7 (p := p) (n := q) (by omega) (goodD q f) (Agv p q f)
 refine aX Tryz.tabOk aE Tryz.func77 rfl rfl ?_
 conv => whnf
 repeat' first | ((first | (apply zI; refine zP (key) ?_) | (apply zI; refine zP (kpw) ?_) | (refine zP (fun h => ?_) (fun h => ?_) <;> (try simp only [aB, aD] at h) <;> first | (exfalso; omega) | skip) | refine zS ?_ | refine zV ?_ | (apply zI; refine zP aH ?_) | refine Alt.fst ?_ | refine Or.inl ?_) <;> conv => whnf) | fail
 refine aR Tryz.tabOk aE (α := Nat) (fun n => []) (fun n => [(4, some ⟨false, 1, ints (bH p q n)⟩)]) (fun n => n < p ^ q ∧ ∀ k, k < n → goodD q f (bH p q (k + 1)) = false) (fun n => p ^ q - n) (0) ?_ ?_ ?_
 · exact ⟨hP, by omega⟩
 · conv => whnf
   first | refine aG.autoR ?_ | refine aC.autoR ?_
   conv => whnf
   repeat' ((first | refine z1 ?_ | refine z2 ?_ | refine zV ?_ | refine zP bQ ?_ | refine zP bR ?_ | refine zP ?_ ?_ | exact trivial) <;> try (conv => whnf))
   all_goals rw [sH]
 intro n hn
 obtain ⟨hn, hno⟩ := hn
 have hdr := uJ (p := p) (by omega) q n hn
 conv => whnf
 by_cases hlast : n + 1 < p ^ q
 · have kS := O3 (p : Int) (by omega) q (by omega) (bH p q n) (bH p q (n + 1)) (by simp) hdr (by rw [rU (by omega) _ _ hn, if_pos hlast])
   have hlu : bH p q (n + 1) = L q (rd (p : Int) (bH p q (n + 1))) := by
     have h3 := jT (show Nums (p : Int) (bH p q (n + 1)) from uJ (p := p) (by omega) q (n + 1) hlast)
     rw [yI] at h3
     exact h3.symm
   have hgd : goodD q f (bH p q (n + 1)) = decide (L q (gU f (rd (p : Int) (bH p q (n + 1))) q (q - 1)) = List.replicate q 0) := Aqu (by simp)
   generalize rd (p : Int) (bH p q (n + 1)) = a at *
   simp only [hlu] at kS
   have hel : ∀ b : PS (Zm (p : Int)), aL Tryz.prog 204 [aA p, .list false 1 (sub (cE q f q) 1 0 (cnt 1 (cE q f q))), LD false q b, LD false q a] (LD true q (kZ f b a q)) := fun b => by
     rw [nK (a := cnt 1 (cE q f q)) (Ad6 q f q)]; exact Aou hm q (by omega) false false false f b a
   have hsa := Ar8 false false (L q (gU f a q (q - 1))) (List.replicate q 0) (by simp; omega)
   repeat' first | (refine jA [4] (kS) (by decide) ?_ (by simp) ?_; (focus ((conv => whnf); (repeat' ((first | refine z1 ?_ | refine z2 ?_ | refine zV ?_ | exact trivial) <;> (conv => whnf))); done)); conv => whnf) | fail
   refine iQ Tryz.tabOk aE ?_
   conv => whnf
   repeat' first | ((first | (apply zI; refine zP (hel a) ?_) | (refine zP (fun h => ?_) (fun h => ?_) <;> (try simp only [aB, aD] at h) <;> first | (exfalso; omega) | skip) | refine zV ?_ | (apply zI; refine zP aH ?_) | refine Or.inl ?_) <;> conv => whnf) | fail
   refine aR Tryz.tabOk aE (α := Nat) (fun k => [(9, aA ((k : Int) + 2)), (8, .ref 5 [] 1 0 q), (38, .undef)]) (fun k => [(5, some ⟨false, 1, ints (L q (gU f a q (k + 1)))⟩)]) (fun k => k + 2 ≤ q) (fun k => q - k) (0) ?_ ?_ ?_
   · omega
   · conv => whnf
     first | refine aG.autoR ?_ | refine aC.autoR ?_
     conv => whnf
     repeat' ((first | refine z1 ?_ | refine z2 ?_ | refine zV ?_ | refine zP bQ ?_ | refine zP bR ?_ | refine zP ?_ ?_ | exact trivial) <;> try (conv => whnf))
   intro k hk
   conv => whnf
   repeat' first | ((first | (apply zI; refine zP (hel (gU f a q (k + 1))) ?_) | (refine zP (fun h => ?_) (fun h => ?_) <;> (try simp only [aB, aD] at h) <;> first | (exfalso; omega) | skip) | refine zV ?_ | (apply zI; refine zP aH ?_) | refine Or.inl ?_) <;> conv => whnf) | fail
   · refine Exists.intro (k + 1) (zP (by omega) (zP (by omega) ?_))
     first | refine aG.autoR ?_ | refine aC.autoR ?_
     conv => whnf
     repeat' ((first | refine z1 ?_ | refine z2 ?_ | refine zV ?_ | refine zP bQ ?_ | refine zP bR ?_ | refine zP ?_ ?_ | exact trivial) <;> try (conv => whnf))
   · have hkq : k + 1 = q - 1 := by omega
     rw [hkq]
     repeat' first | ((first | refine z0 ?_ | (apply zI; refine zP (hsa) ?_) | (refine zP (fun h => ?_) (fun h => ?_) <;> (try simp only [aB, aD] at h) <;> first | (exfalso; omega) | skip)) <;> conv => whnf) | fail
     · have hs : L q (gU f a q (q - 1)) = List.replicate q 0 := of_decide_eq_true (by assumption)
       have hg : goodD q f (bH p q (n + 1)) = true := by rw [hgd, decide_eq_true hs]
       have hno2 : decide ((ext p (goodD q f) q []).length = 1) = false := by
         rw [Bool.eq_false_iff]
         intro c
         exact absurd (hone.1 c n hlast) (by rw [hg]; decide)
       rw [hno2]
     · have hs : ¬ L q (gU f a q (q - 1)) = List.replicate q 0 := of_decide_eq_false (by assumption)
       refine Exists.intro (n + 1) (zP ⟨hlast, fun k hk2 => ?_⟩ (zP (by omega) ?_))
       · rcases Nat.lt_or_ge k n with h | h
         · exact hno k h
         · have : k = n := by omega
           subst this
           rw [hgd, decide_eq_false hs]
       · first | refine aG.autoR ?_ | refine aC.autoR ?_
         conv => whnf
         repeat' ((first | refine z1 ?_ | refine z2 ?_ | refine zV ?_ | refine zP bQ ?_ | refine zP bR ?_ | refine zP ?_ ?_ | exact trivial) <;> try (conv => whnf))
         all_goals rw [hlu]
 · have kN := L5 (p : Int) (by omega) q (by omega) (bH p q n) (by simp) hdr (by rw [rU (by omega) _ _ hn, if_neg hlast])
   have hyes : decide ((ext p (goodD q f) q []).length = 1) = true := hone.2 (fun k hk => hno k (by omega))
   rw [hyes]
   repeat' first | (refine jA [4] (kN) (by decide) ?_ (by simp) ?_; (focus ((conv => whnf); (repeat' ((first | refine z1 ?_ | refine z2 ?_ | refine zV ?_ | exact trivial) <;> (conv => whnf))); done)); conv => whnf) | ((first | refine z0 ?_) <;> conv => whnf) | fail
end Go.Proofs
namespace Go.Proofs
open Go Go.Vm Go.Fg Go.Fg.PS
set_option maxRecDepth 100000
set_option maxHeartbeats 4000000
set_option linter.unusedSimpArgs false
set_option linter.unusedVariables false
noncomputable def mX (m : Int) (t : List (List Int)) : D := if kC m t = 0 then .tup [bD (decide ((ext m.toNat (goodD (aI m t) (aZ m t)) (aI m t) []).length = 1)), aA 0] else .tup [bD false, aA (kC m t)]
theorem Ack {m : Int} (h : dU m = true) : ∃ p : Nat, m = p ∧ (p = 2 ∨ p = 3 ∨ p = 5 ∨ p = 7) := by
 simp only [dU, Bool.or_eq_true, decide_eq_true_eq] at h
 rcases h with rfl | rfl | rfl | rfl
 · exact ⟨2, rfl, by omega⟩
 · exact ⟨3, rfl, by omega⟩
 · exact ⟨5, rfl, by omega⟩
 · exact ⟨7, rfl, by omega⟩
theorem Ahb {p q : Nat} (hp : p = 2 ∨ p = 3 ∨ p = 5 ∨ p = 7) (hq : q ≤ 6) : p ^ q ≤ 117649 := by
 have h1 : p ^ q ≤ 7 ^ q := Nat.pow_le_pow_left (by omega) q
 have h2 : 7 ^ q ≤ 7 ^ 6 := Nat.pow_le_pow_right (by omega) hq
 omega
theorem Aol (x : Int) : aL Tryz.prog 199 [aA x] (bD (decide (x = 0))) := by
 refine aX Tryz.tabOk aE Tryz.func199 rfl rfl ?_
 conv => whnf
 repeat' first | ((first | refine z0 ?_ | (refine zP (fun h => ?_) (fun h => ?_) <;> (try simp only [aB, aD] at h)) | refine zS ?_ | refine zV ?_ | (apply zI; refine zP aK ?_) | (apply zI; refine zP aH ?_) | refine zA ?_ | refine Alt.fst ?_ | refine Or.inl ?_) <;> conv => whnf) | fail
 all_goals (refine bO ?_; first | rfl | (simp_all []; done) | (simp_all []; omega) | (simp_all []; intros; omega))
theorem Ajt (o : Bool) (l : List Int) (hl : l.length ≤ 1048576) : aL Tryz.prog 197 [.list o 1 (ints l)] (bD (l.all fun x => decide (x = 0))) := by
 refine aX Tryz.tabOk aE Tryz.func197 rfl rfl ?_
 conv => whnf
 repeat' first | ((first | refine z0 ?_ | (apply zI; refine zP (Ajf 199 (fun x => decide (x = 0)) (fun x => Aol x) _ l hl) ?_) | (refine zP (fun h => ?_) (fun h => ?_) <;> (try simp only [aB, aD] at h)) | refine Or.inl ?_) <;> conv => whnf) | fail
 all_goals (refine bO ?_; first | rfl | (simp_all []; done) | (simp_all []; omega) | (simp_all []; intros; omega))
theorem Al1 {p q : Nat} (hm : Md (p : Int)) (hq : 1 ≤ q ∧ q ≤ 100) (oo : Bool) (d3 d4 : D) (f : PS (PS (Zm (p : Int)))) (u : List Int) (hu : u.length = q) (hb : ∀ x ∈ u, 0 ≤ x ∧ x < (p : Int)) :
   aL Tryz.prog 200 [.list false 1 (ints u), .cptr [.fn (.func 197) [] []] 0, .cptr [.cptr [aA p, aA q, .list oo 1 (cE q f q), d3, d4] 0] 0] (bD (goodD q f u)) := by
 have hlu : u = L q (rd (p : Int) u) := by rw [← hu, jT (show Nums (p : Int) u from hb)]
 have key := Ary hm q hq oo false d3 d4 f (rd (p : Int) u) (q - 1) (by omega) (E := (q : Int)) (by omega)
 unfold goodD
 simp only [LD] at key
 rw [← hlu] at key
 have hL : (L q (gU f (rd (p : Int) u) q (q - 1))).length ≤ 1048576 := by simp; omega
 have key2 := Ajt false (L q (gU f (rd (p : Int) u) q (q - 1))) hL
 generalize L q (gU f (rd (p : Int) u) q (q - 1)) = W at *
 rw [← gW] at key2
 refine aX Tryz.tabOk aE Tryz.func200 rfl rfl ?_
 conv => whnf
 repeat' first | ((first | refine z0 ?_ | (apply zI; refine zP (rfl) ?_) | (apply zI; refine zP (key) ?_) | (apply zI; refine zP (key2) ?_) | (refine zP (fun h => ?_) (fun h => ?_) <;> (try simp only [aB, aD] at h)) | refine zS ?_ | refine zV ?_ | refine Alt.fst ?_ | refine Or.inl ?_) <;> conv => whnf) | fail
 all_goals (refine bO ?_; symm; assumption)
theorem Agl (o p : Bool) (m : Int) (t : List (List Int)) (hl : t.length ≤ 1048576) (hr : dP t) :
   aL Tryz.prog 76 [.agg [aA m, .list o 1 (rows p t)]] (mX m t) := by
 by_cases hk : bW m t = 0
 · have hht : cT m t = 0 := by
     unfold bW at hk
     split at hk
     · assumption
     · exact hk
   obtain ⟨hb, hpr⟩ := fN hht
   obtain ⟨hp, hlw⟩ := hO hb
   obtain ⟨hm, h2, h3, _⟩ := fI hp
   have hm1 := hm.1
   have hm2 := hm.2
   have key := jP o p m t hl hr
   rw [hk, if_pos rfl] at key
   have hdeg : aL Tryz.prog 124 [.agg [aA m, .list o 1 (rows p t)]] (aA (t.length - 1)) := by
     have := iM (m := m) o p t.length (by omega) (aZ m t)
     simpa only [cI, dY hp] using this
   have hlt : aI m t < t.length := nL (by omega)
   refine aX Tryz.tabOk aE Tryz.func76 rfl rfl ?_
   conv => whnf
   repeat' first | ((first | refine z0 ?_ | refine Or.inr (gN Tryz.tabOk aE _ Tryz.func191 rfl rfl ?_) | (apply zI; refine zP (key) ?_) | (apply zI; refine zP (hdeg) ?_) | (refine zP (fun h => ?_) (fun h => ?_) <;> (try simp only [aB, aD] at h) <;> first | (exfalso; omega) | skip) | refine zV ?_ | refine Or.inl ?_) <;> conv => whnf) | fail
   · have h3 : 2 * ((aI m t : Int) - 1) > (t.length : Int) - 1 := by assumption
     have h4 : kC m t = 3 := by unfold kC; rw [if_pos hk, if_pos h3]
     rw [mX, h4, if_neg (by omega)]
   · have h3 : ¬ 2 * ((aI m t : Int) - 1) > (t.length : Int) - 1 := by assumption
     have h4 : kC m t = 0 := by unfold kC; rw [if_pos hk, if_neg h3]
     have hq1 := (fJ h4).2.2.1
     have hq2 := (fJ h4).2.2.2
     obtain ⟨pp, rfl, hpp⟩ := Ack hpr
     have hyes : D.tup [bD (decide ((ext pp (goodD (aI pp t) (aZ pp t)) (aI pp t) []).length = 1)), aA 0] = mX pp t := by rw [mX, if_pos h4]; rfl
     have hpw : pp ^ aI pp t ≤ 1000000 := Nat.le_trans (Ahb hpp (by omega)) (by omega)
     have hge : 2 ≤ aI pp t := mB hk hht
     have hT := dY hp
     generalize hf : aZ (pp : Int) t = f at *
     generalize hN : t.length = N at *
     generalize hqq : aI (pp : Int) t = q at *
     rw [← hT]
     have hel := fun (d3 d4 : D) => Am1 pp q (by omega) (by omega) hpw (.list false 1 (cE q f q)) d3 d4 200 _ _ (goodD q f) (fun u hu hb => Al1 hm (by omega) false d3 d4 f u hu hb)
     refine iQ Tryz.tabOk aE ?_
     conv => whnf
     repeat' first | ((first | (apply zI; refine zP (nA (m := (pp : Int)) q aF aF) ?_) | (apply zI; refine zP (eU (i := 0) aN aJ) ?_) | (apply zI; refine zP (jI (i := 0) (j := 0) _ aN aN aJ aJ) ?_) | (refine zP (fun h => ?_) (fun h => ?_) <;> (try simp only [aB, aD] at h) <;> first | (exfalso; omega) | skip) | refine zV ?_ | refine zP (aJ) ?_ | refine Or.inl ?_) <;> conv => whnf) | fail
     rw [show cR (bA q (0 : PS (PS (Zm (pp : Int))))) 0 0 1 = bA q (1 : PS (PS (Zm (pp : Int)))) from jS (1 : Zm (pp : Int)) (Zm.val_one (by omega)).symm (by omega) (fun a b _ _ => by
       rw [fP, PS.one_c]
       by_cases ha : a = 0
       · rw [if_pos ha, PS.one_c]
         by_cases hb : b = 0
         · rw [if_pos ⟨ha, hb⟩, if_pos hb]
         · rw [if_neg (by omega), if_neg hb]; rfl
       · rw [if_neg (by omega), if_neg ha]; rfl)]
     refine aR Tryz.tabOk aE (α := Nat) (fun i => [(63, aA i)]) (fun i => [(6, some ⟨false, 1, rows true (bA q (mix i f 0))⟩)]) (fun i => i ≤ q) (fun i => q - i) (0) ?_ ?_ ?_
     · omega
     · conv => whnf
       first | refine aG.autoR ?_ | refine aC.autoR ?_
       conv => whnf
       repeat' ((first | refine z1 ?_ | refine z2 ?_ | refine zV ?_ | refine zP ?_ ?_ | exact trivial) <;> try (conv => whnf))
       all_goals rw [kI]
     intro i hi
     conv => whnf
     repeat' first | ((first | (apply zI; refine zP (eU (i := i) aN aJ) ?_) | (apply zI; refine zP (rT (i := i) aN aJ) ?_) | (refine zP (fun h => ?_) (fun h => ?_) <;> (try simp only [aB, aD] at h) <;> first | (exfalso; omega) | skip) | refine zS ?_ | refine zV ?_ | (apply zI; refine zP aH ?_) | refine zP (aJ) ?_ | refine Or.inl ?_) <;> conv => whnf) | fail
     · have hi' : i < q := aJ
       refine Exists.intro (i + 1) (zP aJ (zP aJ ?_))
       first | refine aG.autoR ?_ | refine aC.autoR ?_
       conv => whnf
       repeat' ((first | refine z1 ?_ | refine z2 ?_ | refine zV ?_ | refine zP ?_ ?_ | exact trivial) <;> try (conv => whnf))
       simp only [aB, aD, aV, eY, Int.toNat_natCast, Nat.zero_add, List.nil_append]
       rw [← uG]
       exact tE hi' (by omega)
     · have hiq : i = q := aJ
       rw [show bA q (mix i f 0) = bA q f from eS (fun a b ha hb => by rw [eG, if_pos (by omega)])]
       refine aR Tryz.tabOk aE (α := Nat) (fun k => [(84, aA k), (12, .undef), (56, .undef), (57, .undef), (58, .undef), (59, .undef), (60, .undef), (78, .undef), (79, .undef)]) (fun k => [(8, some ⟨false, 1, cE q f (k + 1)⟩), (5, some ⟨true, 1, [aA pp, aA q, .ref 8 [] 1 0 (k + 1), aA pp, .list o 1 (rows p (Tb N f))]⟩)]) (fun k => k + 1 ≤ q) (fun k => q - k) (0) ?_ ?_ ?_
       · omega
       · conv => whnf
         first | refine aG.autoR ?_ | refine aC.autoR ?_
         conv => whnf
         repeat' ((first | refine z1 ?_ | refine z2 ?_ | refine zV ?_ | refine zP ?_ ?_ | exact trivial) <;> try (conv => whnf))
       intro k hkq
       conv => whnf
       repeat' first | ((first | refine z0 ?_ | (apply zI; refine zP (pY k aN aJ) ?_) | (apply zI; refine zP (pN k aN aJ) ?_) | (apply zI; refine zP (nK aJ) ?_) | (apply zI; refine zP (kW aJ) ?_) | (apply zI; refine zP (tA hm q aF _ _ _ _ _ _ _ (pw f k) f) ?_) | (refine zP (fun h => ?_) (fun h => ?_) <;> (try simp only [aB, aD] at h) <;> first | (exfalso; omega) | skip) | refine zS ?_ | refine zV ?_ | (apply zI; refine zP aH ?_) | refine zP (tC aJ) ?_ | refine zP (qO aJ) ?_ | refine zP (rX _) ?_ | refine zP (aJ) ?_ | refine Alt.fst ?_ | refine Or.inl ?_) <;> conv => whnf) | fail
       · refine Exists.intro (k + 1) (zP aJ (zP aJ ?_))
         first | refine aG.autoR ?_ | refine aC.autoR ?_
         conv => whnf
         repeat' ((first | refine z1 ?_ | refine z2 ?_ | refine zV ?_ | refine zP ?_ ?_ | exact trivial) <;> try (conv => whnf))
         exact rA rfl
       · have hkq' : k + 1 = q := aJ
         subst hkq'
         repeat' first | ((first | refine z0 ?_ | (apply zI; refine zP (hel _ _) ?_) | (refine zP (fun h => ?_) (fun h => ?_) <;> (try simp only [aB, aD] at h) <;> first | (exfalso; omega) | skip) | refine zV ?_) <;> conv => whnf) | fail
         · have hh : ((rows true (ext pp (goodD (k + 1) f) (k + 1) [])).length : Int) = 1 := by assumption
           rw [aP] at hh
           rw [hT, ← hyes, decide_eq_true (by omega)]
         · have hh : ¬ ((rows true (ext pp (goodD (k + 1) f) (k + 1) [])).length : Int) = 1 := by assumption
           rw [aP] at hh
           rw [hT, ← hyes, decide_eq_false (by omega)]
 · refine aX Tryz.tabOk aE Tryz.func76 rfl rfl ?_
   conv => whnf
   have key := jP o p m t hl hr
   rw [if_neg hk] at key
   repeat' first | ((first | refine z0 ?_ | refine Or.inr (gN Tryz.tabOk aE _ Tryz.func191 rfl rfl ?_) | (apply zI; refine zP (key) ?_) | (refine zP (fun h => ?_) (fun h => ?_) <;> (try simp only [aB, aD] at h) <;> first | (exfalso; omega) | skip) | refine Or.inl ?_) <;> conv => whnf) | fail
   have h4 : kC m t = bW m t := by unfold kC; rw [if_neg hk]
   rw [mX, h4, if_neg hk]
theorem Ani (o p : Bool) (m : Int) (t : List (List Int)) (hl : t.length ≤ 1048576) (hr : dP t) :
   aL Tryz.prog 77 [.agg [aA m, .list o 1 (rows p t)]] (mX m t) := by
 have key := vH o p m t hl hr
 by_cases h4 : kC m t = 0
 · obtain ⟨hk, hht, hq1, hq2⟩ := fJ h4
   obtain ⟨hb, hpr⟩ := fN hht
   obtain ⟨hp, hlw⟩ := hO hb
   obtain ⟨hm, h2, h3, _⟩ := fI hp
   rw [h4, if_pos rfl] at key
   have hge : 2 ≤ aI m t := mB hk hht
   obtain ⟨pp, rfl, hpp⟩ := Ack hpr
   have hyes : D.tup [bD (decide ((ext pp (goodD (aI pp t) (aZ pp t)) (aI pp t) []).length = 1)), aA 0] = mX pp t := by rw [mX, if_pos h4]; rfl
   have ks := Apr pp (aI pp t) t.length (by omega) hm ⟨hge, by omega, by omega⟩ o p (aZ pp t) (by simpa only [cI, dY hp] using key)
   simp only [cI, dY hp] at ks
   rw [← hyes]
   exact ks
 · rw [if_neg h4] at key
   refine aX Tryz.tabOk aE Tryz.func77 rfl rfl ?_
   conv => whnf
   repeat' first | ((first | refine z0 ?_ | (apply zI; refine zP (key) ?_) | (refine zP (fun h => ?_) (fun h => ?_) <;> (try simp only [aB, aD] at h) <;> first | (exfalso; omega) | skip) | refine Or.inl ?_) <;> conv => whnf) | fail
   rw [mX, if_neg h4]
end Go.Proofs
namespace Go.Proofs
open Go Go.Vm Go.Fg Go.Fg.PS
set_option maxRecDepth 100000
set_option maxHeartbeats 4000000
set_option linter.unusedSimpArgs false
set_option linter.unusedVariables false
variable {m : Int}
theorem Ae8 {us vs : List Int} {i : Nat} (h : i < us.length) : (us ++ vs).getD i 0 = us.getD i 0 := by
 rw [List.getD_eq_getElem?_getD, List.getElem?_append_left h, ← List.getD_eq_getElem?_getD]
theorem Z1 {us : List Int} {z : Int} (h : Nums m us) (hz : 0 ≤ z ∧ z < m) : Nums m (us ++ [z]) := fun x hx => by
 rcases List.mem_append.1 hx with hx | hx
 · exact h x hx
 · have : x = z := by simpa using hx
   rw [this]; exact hz
theorem Anf (o : Bool) (l : List Nat) (hb : ∀ b ∈ l, b < 256) (hl : l.length ≤ 4611686018427387904) (a : Nat) (ha : a ≤ l.length) (hs : Int) :
   cM Tryz.prog 308 2 [.ptr 1 [] 0] [none, some (aU o l a hs)]
     (fun d rt => ∃ (x : Int) (a' : Nat) (h' : Int), (2 ≤ x ∧ x ≤ 9973) ∧ a' ≤ l.length ∧ d = aA x ∧ rt = [none, some (aU o l a' h')]) := by
 refine eR Tryz.tabOk aE 2 _ Tryz.func308 rfl rfl ?_
 conv => whnf
 repeat' first | (refine bM [1] (dV o l hb hl a ha hs 60) (fun d rt' hd => ?_)) | fail
 obtain ⟨x, a1, h1, hx, ha1, rfl, rfl⟩ := hd
 refine ⟨rfl, by simp, ?_⟩
 conv => whnf
 have hx2 := hx.2 (by omega)
 repeat' first | (refine bM [1, 2] (sR o l hb hl a1 ha1 h1 [2, 3, 5, 7, 4, 9, 8, 6, 11, 101, 9973, 2 + x] (by simp)) (fun d rt' hd => ?_)) | ((first | refine zV ?_) <;> conv => whnf) | fail
 obtain ⟨y, a2, h2, hy, ha2, rfl, rfl⟩ := hd
 refine ⟨rfl, by simp, ?_⟩
 conv => whnf
 repeat' first | ((first | refine z0 ?_ | (refine zP (fun h => ?_) (fun h => ?_) <;> (try simp only [aB, aD] at h)) | refine zS ?_ | refine zV ?_ | (apply zI; refine zP aK ?_) | (apply zI; refine zP aH ?_) | refine zA ?_ | refine Alt.fst ?_ | refine Or.inl ?_) <;> conv => whnf) | fail
 have hy2 : 2 ≤ y ∧ y ≤ 9973 := by
   simp only [List.mem_cons, List.not_mem_nil, or_false] at hy
   omega
 refine ⟨aA y, [none, some (aU o l a2 h2)], ⟨y, a2, h2, hy2, ha2, rfl, rfl⟩, aC.of (kp := 2) [none, some 1] ?_⟩
 conv => whnf
 repeat' ((first | refine z1 ?_ | refine zV ?_ | refine zP ?_ ?_ | exact trivial) <;> try (conv => whnf))
theorem yH (hm : Md m) (o : Bool) (l : List Nat) (hb : ∀ b ∈ l, b < 256) (hl : l.length ≤ 4611686018427387904) (a : Nat) (ha : a ≤ l.length) (hs : Int) (n : Nat) (hn : 2 ≤ n ∧ n ≤ 11) {d : Int} (hd : d + 1 = n) :
   cM Tryz.prog 150 2 [.ptr 1 [] 0, aA m, aA d] [none, some (aU o l a hs)]
     (fun d rt => ∃ (f : PS (Zm m)) (a' : Nat) (h' : Int), (f.c 0 = 0 ∧ f.c 1 = 1) ∧ a' ≤ l.length ∧ d = .ref 2 [] 1 0 n ∧ rt = [none, some (aU o l a' h'), some ⟨false, 1, ints (L n f)⟩]) := by
 have hm1 := hm.1
 have hm2 := hm.2
 refine eR Tryz.tabOk aE 2 _ Tryz.func150 rfl rfl ?_
 conv => whnf
 repeat' first | ((first | refine z0 ?_ | (refine zP (fun h => ?_) (fun h => ?_) <;> (try simp only [aB, aD] at h)) | refine zS ?_ | refine zV ?_ | (apply zI; refine zP aK ?_) | (apply zI; refine zP aH ?_) | refine zA ?_ | refine Alt.fst ?_ | refine Or.inl ?_) <;> conv => whnf) | fail
 refine aR Tryz.tabOk aE (α := List Int × Nat × Int) (fun u => [(8, aA u.1.length), (7, .ref 2 [] 1 0 u.1.length), (9, .undef)]) (fun u => [(1, some (aU o l u.2.1 u.2.2)), (2, some ⟨false, 1, ints u.1⟩)]) (fun u => (2 ≤ u.1.length ∧ u.1.length ≤ n) ∧ (u.1.getD 0 0 = 0 ∧ u.1.getD 1 0 = 1) ∧ Nums m u.1 ∧ u.2.1 ≤ l.length) (fun u => n - u.1.length) (([0, 1], a, hs)) ?_ ?_ ?_
 · exact ⟨⟨by simp, by simpa using hn.1⟩, ⟨rfl, rfl⟩, fun x hx => by simp at hx; omega, ha⟩
 · conv => whnf
   first | refine aG.autoR ?_ | refine aC.autoR ?_
   conv => whnf
   repeat' ((first | refine z1 ?_ | refine z2 ?_ | refine zV ?_ | refine zP ?_ ?_ | exact trivial) <;> try (conv => whnf))
 intro u hu
 obtain ⟨us, a0, h0⟩ := u
 obtain ⟨⟨hu1, hu2⟩, ⟨hu3, hu4⟩, hu5, ha0⟩ := hu
 simp only at hu1 hu2 hu3 hu4 hu5 ha0
 conv => whnf
 by_cases hlt : us.length < n
 · repeat' first | (refine bM [1] (dV o l hb hl a0 ha0 h0 m) (fun d rt' hd => ?_)) | ((first | (refine zP (fun h => ?_) (fun h => ?_) <;> (try simp only [aB, aD] at h) <;> first | (exfalso; omega) | skip)) <;> conv => whnf) | fail
   obtain ⟨x, a1, h1, hx, ha1, rfl, rfl⟩ := hd
   refine ⟨rfl, by simp, ?_⟩
   conv => whnf
   have hx2 := hx.2 (by omega)
   repeat' first | (refine bM [1] (dV o l hb hl a1 ha1 h1 m) (fun d rt' hd => ?_)) | fail
   obtain ⟨y, a2, h2, hy, ha2, rfl, rfl⟩ := hd
   refine ⟨rfl, by simp, ?_⟩
   conv => whnf
   have hy2 := hy.2 (by omega)
   repeat' first | (refine bM [1, 3] (sR o l hb hl a2 ha2 h2 [0, 0, x, y] (by simp)) (fun d rt' hd => ?_)) | fail
   obtain ⟨z, a3, h3, hz, ha3, rfl, rfl⟩ := hd
   refine ⟨rfl, by simp, ?_⟩
   conv => whnf
   have hz2 : 0 ≤ z ∧ z < m := by
     simp only [List.mem_cons, List.not_mem_nil, or_false] at hz
     omega
   repeat' first | ((first | refine z0 ?_ | (refine zP (fun h => ?_) (fun h => ?_) <;> (try simp only [aB, aD] at h) <;> first | (exfalso; omega) | skip) | refine zS ?_ | refine zV ?_ | (apply zI; refine zP aK ?_) | (apply zI; refine zP aH ?_)) <;> conv => whnf) | fail
   refine Exists.intro (us ++ [z], a3, h3) (zP ⟨⟨by simp only [List.length_append, List.length_singleton]; omega, by simp only [List.length_append, List.length_singleton]; omega⟩, ⟨by rw [Ae8 (by omega)]; exact hu3, by rw [Ae8 (by omega)]; exact hu4⟩, Z1 hu5 hz2, ha3⟩ (zP (by simp only [List.length_append, List.length_singleton]; omega) ?_))
   first | refine aG.autoR ?_ | refine aC.autoR ?_
   conv => whnf
   repeat' ((first | refine z1 ?_ | refine z2 ?_ | refine zV ?_ | refine zP ?_ ?_ | exact trivial) <;> try (conv => whnf))
   all_goals simp [ints]
 · repeat' first | ((first | refine z0 ?_ | (refine zP (fun h => ?_) (fun h => ?_) <;> (try simp only [aB, aD] at h) <;> first | (exfalso; omega) | skip) | refine zS ?_ | refine zV ?_ | (apply zI; refine zP aK ?_) | (apply zI; refine zP aH ?_)) <;> conv => whnf) | fail
   have hl2 : us.length = n := by omega
   have e := jT hu5
   rw [hl2] at e
   refine ⟨.ref 2 [] 1 0 n, [none, some (aU o l a0 h0), some ⟨false, 1, ints (L n (rd m us))⟩], ⟨rd m us, a0, h0, ⟨by rw [rd_c, hu3]; rfl, by rw [rd_c, hu4]; rfl⟩, ha0, rfl, rfl⟩, aC.of (kp := 2) [none, some 1, some 2] ?_⟩
   conv => whnf
   repeat' ((first | refine z1 ?_ | refine zV ?_ | refine zP ?_ ?_ | exact trivial) <;> try (conv => whnf))
   all_goals first | exact hl2 | rw [e]
theorem All (hm : Md m) (o : Bool) (l : List Nat) (hb : ∀ b ∈ l, b < 256) (hl : l.length ≤ 4611686018427387904) (a : Nat) (ha : a ≤ l.length) (hs : Int) :
   cM Tryz.prog 224 2 [.ptr 1 [] 0, aA m] [none, some (aU o l a hs)]
     (fun d rt => ∃ (f : PS (Zm m)) (a' : Nat) (h' : Int), a' ≤ l.length ∧ d = .ref 2 [] 1 0 5 ∧ rt = [none, some (aU o l a' h'), some ⟨false, 1, ints (L 5 f)⟩]) := by
 have hm1 := hm.1
 have hm2 := hm.2
 refine eR Tryz.tabOk aE 2 _ Tryz.func224 rfl rfl ?_
 conv => whnf
 repeat' first | ((first | refine z0 ?_ | (refine zP (fun h => ?_) (fun h => ?_) <;> (try simp only [aB, aD] at h)) | refine zS ?_ | refine zV ?_ | (apply zI; refine zP aK ?_) | (apply zI; refine zP aH ?_) | refine zA ?_ | refine Alt.fst ?_ | refine Or.inl ?_) <;> conv => whnf) | fail
 refine aR Tryz.tabOk aE (α := List Int × Nat × Int) (fun u => [(6, aA u.1.length), (5, .ref 2 [] 1 0 u.1.length), (7, .undef)]) (fun u => [(1, some (aU o l u.2.1 u.2.2)), (2, some ⟨false, 1, ints u.1⟩)]) (fun u => u.1.length ≤ 5 ∧ Nums m u.1 ∧ u.2.1 ≤ l.length) (fun u => 5 - u.1.length) (([], a, hs)) ?_ ?_ ?_
 · exact ⟨by simp, fun x hx => by simp at hx, ha⟩
 · conv => whnf
   first | refine aG.autoR ?_ | refine aC.autoR ?_
   conv => whnf
   repeat' ((first | refine z1 ?_ | refine z2 ?_ | refine zV ?_ | refine zP ?_ ?_ | exact trivial) <;> try (conv => whnf))
 intro u hu
 obtain ⟨us, a0, h0⟩ := u
 obtain ⟨hu2, hu5, ha0⟩ := hu
 simp only at hu2 hu5 ha0
 conv => whnf
 by_cases hlt : us.length < 5
 · repeat' first | (refine bM [1] (dV o l hb hl a0 ha0 h0 m) (fun d rt' hd => ?_)) | ((first | (refine zP (fun h => ?_) (fun h => ?_) <;> (try simp only [aB, aD] at h) <;> first | (exfalso; omega) | skip)) <;> conv => whnf) | fail
   obtain ⟨x, a1, h1, hx, ha1, rfl, rfl⟩ := hd
   refine ⟨rfl, by simp, ?_⟩
   conv => whnf
   have hx2 := hx.2 (by omega)
   repeat' first | (refine bM [1, 3] (sR o l hb hl a1 ha1 h1 [0, 0, 1, x] (by simp)) (fun d rt' hd => ?_)) | fail
   obtain ⟨z, a3, h3, hz, ha3, rfl, rfl⟩ := hd
   refine ⟨rfl, by simp, ?_⟩
   conv => whnf
   have hz2 : 0 ≤ z ∧ z < m := by
     simp only [List.mem_cons, List.not_mem_nil, or_false] at hz
     omega
   repeat' first | ((first | refine z0 ?_ | (refine zP (fun h => ?_) (fun h => ?_) <;> (try simp only [aB, aD] at h) <;> first | (exfalso; omega) | skip) | refine zS ?_ | refine zV ?_ | (apply zI; refine zP aK ?_) | (apply zI; refine zP aH ?_)) <;> conv => whnf) | fail
   refine Exists.intro (us ++ [z], a3, h3) (zP ⟨by simp only [List.length_append, List.length_singleton]; omega, Z1 hu5 hz2, ha3⟩ (zP (by simp only [List.length_append, List.length_singleton]; omega) ?_))
   first | refine aG.autoR ?_ | refine aC.autoR ?_
   conv => whnf
   repeat' ((first | refine z1 ?_ | refine z2 ?_ | refine zV ?_ | refine zP ?_ ?_ | exact trivial) <;> try (conv => whnf))
   all_goals simp [ints]
 · repeat' first | ((first | refine z0 ?_ | (refine zP (fun h => ?_) (fun h => ?_) <;> (try simp only [aB, aD] at h) <;> first | (exfalso; omega) | skip) | refine zS ?_ | refine zV ?_ | (apply zI; refine zP aK ?_) | (apply zI; refine zP aH ?_)) <;> conv => whnf) | fail
   have hl2 : us.length = 5 := by omega
   have e := jT hu5
   rw [hl2] at e
   refine ⟨.ref 2 [] 1 0 5, [none, some (aU o l a0 h0), some ⟨false, 1, ints (L 5 (rd m us))⟩], ⟨rd m us, a0, h0, ha0, rfl, rfl⟩, aC.of (kp := 2) [none, some 1, some 2] ?_⟩
   conv => whnf
   repeat' ((first | refine z1 ?_ | refine zV ?_ | refine zP ?_ ?_ | exact trivial) <;> try (conv => whnf))
   all_goals first | exact hl2 | rw [e]
def turn (f : PS (PS (Zm m))) : PS (PS (Zm m)) := pl fun p q => (f.c q).c p
def oY (f : PS (PS (Zm m))) (i j : Nat) : PS (PS (Zm m)) := pl fun p q => if q < i ∨ (q = i ∧ p < j) then (f.c q).c p else 0
theorem Amy (f : PS (PS (Zm m))) : oY f 0 0 = 0 := tF (fun p q => by
 show (if _ then _ else _) = _
 rw [if_neg (by omega)]; rfl)
theorem Aju (f : PS (PS (Zm m))) (i j : Nat) : bT (oY f i j) j i ((f.c i).c j) = oY f i (j + 1) := tF (fun p q => by
 rw [fP]
 show (if _ then _ else if _ then _ else _) = (if _ then _ else _)
 by_cases h : p = j ∧ q = i
 · rw [if_pos h, if_pos (by omega), h.1, h.2]
 · rw [if_neg h]
   by_cases h2 : q < i ∨ (q = i ∧ p < j)
   · rw [if_pos h2, if_pos (by omega)]
   · rw [if_neg h2, if_neg (by omega)])
theorem Ahj (f : PS (PS (Zm m))) {n i j : Nat} (h : n ≤ i + j) : cC n (oY f i j) (oY f (i + 1) 0) := fun p q hpq => by
 show (if _ then _ else _) = (if _ then _ else _)
 by_cases h2 : q < i ∨ (q = i ∧ p < j)
 · rw [if_pos h2, if_pos (by omega)]
 · rw [if_neg h2, if_neg (by omega)]
theorem Ap7 (f : PS (PS (Zm m))) {n i : Nat} (h : n ≤ i) : cC n (oY f i 0) (turn f) := fun p q hpq => by
 show (if _ then _ else _) = _
 rw [if_pos (by omega)]; rfl
theorem Apj (o p : Bool) (n : Nat) (hn : 1 ≤ n ∧ n ≤ 100) (f : PS (PS (Zm m))) : aL Tryz.prog 230 [cH o p n f] (cH true true n (turn f)) := by
 refine aX Tryz.tabOk aE Tryz.func230 rfl rfl ?_
 conv => whnf
 repeat' first | ((first | (apply zI; refine zP (kT (m := m) n aF aF) ?_) | (refine zP (fun h => ?_) (fun h => ?_) <;> (try simp only [aB, aD] at h)) | refine zV ?_ | (apply zI; refine zP aK ?_) | (apply zI; refine zP aH ?_) | refine Or.inl ?_) <;> conv => whnf) | fail
 refine aR Tryz.tabOk aE (α := Nat) (fun i => [(4, aA i), (6, .undef)]) (fun i => [(0, some ⟨false, 1, rows true (Tb n (oY f i 0))⟩)]) (fun i => i ≤ n) (fun i => n - i) (0) ?_ ?_ ?_
 · omega
 · conv => whnf
   first | refine aG.autoR ?_ | refine aC.autoR ?_
   conv => whnf
   repeat' ((first | refine z1 ?_ | refine zP ?_ ?_ | exact trivial) <;> try (conv => whnf))
   all_goals rw [Amy]
 intro i hi
 conv => whnf
 repeat' first | ((first | refine z0 ?_ | (refine zP (fun h => ?_) (fun h => ?_) <;> (try simp only [aB, aD] at h)) | refine zS ?_ | refine zV ?_ | (apply zI; refine zP aK ?_) | (apply zI; refine zP aH ?_) | refine zA ?_ | refine Alt.fst ?_ | refine Or.inl ?_) <;> conv => whnf) | fail
 · refine aR Tryz.tabOk aE (α := Nat) (fun j => [(5, aA j), (6, .undef)]) (fun j => [(0, some ⟨false, 1, rows true (Tb n (oY f i j))⟩)]) (fun j => j ≤ n - i) (fun j => n - j) (0) ?_ ?_ ?_
   · omega
   · conv => whnf
     first | refine aG.autoR ?_ | refine aC.autoR ?_
     conv => whnf
     repeat' ((first | refine z1 ?_ | refine zP ?_ ?_ | exact trivial) <;> try (conv => whnf))
   intro j hj
   conv => whnf
   repeat' first | ((first | refine z0 ?_ | (refine zP (fun h => ?_) (fun h => ?_) <;> (try simp only [aB, aD] at h)) | refine zS ?_ | refine zV ?_ | (apply zI; refine zP aK ?_) | (apply zI; refine zP aH ?_) | refine zA ?_ | refine Alt.fst ?_ | refine Or.inl ?_) <;> conv => whnf) | fail
   · refine Exists.intro (j + 1) (zP aF (zP aF ?_))
     first | refine aG.autoR ?_ | refine aC.autoR ?_
     conv => whnf
     repeat' ((first | refine z1 ?_ | refine zP ?_ ?_ | exact trivial) <;> try (conv => whnf))
     exact bV (dX ((f.c i).c j) rfl aF (cC.of_eq (Aju f i j)))
   · refine Exists.intro (i + 1) (zP aF (zP aF ?_))
     first | refine aG.autoR ?_ | refine aC.autoR ?_
     conv => whnf
     repeat' ((first | refine z1 ?_ | refine zP ?_ ?_ | exact trivial) <;> try (conv => whnf))
     exact bV (kA (Ahj f aF))
 · exact sK (kA (Ap7 f aF))
def bL (f : PS (PS (Zm m))) (a b : PS (Zm m)) (G : PS (PS (Zm m))) (i j k : Nat) : Nat → PS (PS (Zm m))
 | 0 => G
 | t + 1 => bT (bL f a b G i j k t) k (j + t) (((bL f a b G i j k t).c k).c (j + t) + (f.c i).c j * (pw a i).c k * (pw b j).c (j + t))
def bK (f : PS (PS (Zm m))) (a b : PS (Zm m)) (n : Nat) (G : PS (PS (Zm m))) (i j : Nat) : Nat → PS (PS (Zm m))
 | 0 => G
 | t + 1 => bL f a b (bK f a b n G i j t) i j (i + t) (n - (i + t) - j)
open Classical in
noncomputable def bJ (f : PS (PS (Zm m))) (a b : PS (Zm m)) (n : Nat) (G : PS (PS (Zm m))) (i : Nat) : Nat → PS (PS (Zm m))
 | 0 => G
 | j + 1 => if (f.c i).c j = 0 then bJ f a b n G i j else bK f a b n (bJ f a b n G i j) i j (n - i)
noncomputable def bI (f : PS (PS (Zm m))) (a b : PS (Zm m)) (n : Nat) : Nat → PS (PS (Zm m))
 | 0 => 0
 | i + 1 => bJ f a b n (bI f a b n i) i (n - i)
theorem xN {n k q l' i l : Nat} {a : PS (Zm m)} (e : q = i) (e2 : l' = l) (h : i < k) (h2 : l < n) : eK (rows true (iX n a k)) ([] ++ [q]) l' (aA ((pw a i).c l).val) := by
 subst e; subst e2
 refine ⟨ints (L n (pw a q)), ?_, ?_⟩
 · rw [List.nil_append, rL (by simpa using h), C8 h]
 · simp [ints, L, h2]
theorem Ahr (hm : Md m) (o p o1 o2 : Bool) (n : Nat) (hn : 2 ≤ n ∧ n ≤ 100) (f : PS (PS (Zm m))) (a b : PS (Zm m)) : aL Tryz.prog 307 [aA m, cH o p n f, LD o1 n a, LD o2 n b] (cH true true n (bI f a b n n)) := by
 have hm1 := hm.1
 have hm2 := hm.2
 refine aX Tryz.tabOk aE Tryz.func307 rfl rfl ?_
 conv => whnf
 repeat' first | ((first | (apply zI; refine zP (kT (m := m) n aF aF) ?_) | (apply zI; refine zP (R8 hm _ n aF _) ?_) | refine zV ?_ | refine Or.inl ?_) <;> conv => whnf) | fail
 refine aR Tryz.tabOk aE (α := Nat) (fun i => [(13, aA i), (16, .undef)]) (fun i => [(2, some ⟨false, 1, rows true (Tb n (bI f a b n i))⟩)]) (fun i => i ≤ n) (fun i => n - i) (0) ?_ ?_ ?_
 · omega
 · conv => whnf
   first | refine aG.autoR ?_ | refine aC.autoR ?_
   conv => whnf
   repeat' ((first | refine z1 ?_ | refine zP ?_ ?_ | exact trivial) <;> try (conv => whnf))
 intro i hi
 conv => whnf
 repeat' first | ((first | refine z0 ?_ | (refine zP (fun h => ?_) (fun h => ?_) <;> (try simp only [aB, aD] at h)) | refine zS ?_ | refine zV ?_ | (apply zI; refine zP aK ?_) | (apply zI; refine zP aH ?_) | refine zA ?_ | refine Alt.fst ?_ | refine Or.inl ?_) <;> conv => whnf) | fail
 · have hin : i < n := aF
   refine aR Tryz.tabOk aE (α := Nat) (fun j => [(14, aA j), (16, .undef)]) (fun j => [(2, some ⟨false, 1, rows true (Tb n (bJ f a b n (bI f a b n i) i j))⟩)]) (fun j => j ≤ n - i) (fun j => n - j) (0) ?_ ?_ ?_
   · omega
   · conv => whnf
     first | refine aG.autoR ?_ | refine aC.autoR ?_
     conv => whnf
     repeat' ((first | refine z1 ?_ | refine zP ?_ ?_ | exact trivial) <;> try (conv => whnf))
     all_goals rfl
   intro j hj
   conv => whnf
   repeat' first | ((first | refine z0 ?_ | (refine zP (fun h => ?_) (fun h => ?_) <;> (try simp only [aB, aD] at h)) | refine zS ?_ | refine zV ?_ | (apply zI; refine zP aK ?_) | (apply zI; refine zP aH ?_) | refine zA ?_ | refine Alt.fst ?_ | refine Or.inl ?_) <;> conv => whnf) | fail
   · have hjn : i + j < n := aF
     refine aR Tryz.tabOk aE (α := Nat) (fun t => [(15, aA ((i : Int) + t)), (16, .undef)]) (fun t => [(2, some ⟨false, 1, rows true (Tb n (bK f a b n (bJ f a b n (bI f a b n i) i j) i j t))⟩)]) (fun t => t ≤ n - i ∧ ((f.c i).c j = 0 → t = 0)) (fun t => n - t) (0) ?_ ?_ ?_
     · exact ⟨by omega, fun _ => rfl⟩
     · conv => whnf
       first | refine aG.autoR ?_ | refine aC.autoR ?_
       conv => whnf
       repeat' ((first | refine z1 ?_ | refine zP ?_ ?_ | exact trivial) <;> try (conv => whnf))
       all_goals first | rfl | omega
     intro t ht
     obtain ⟨ht, ht0⟩ := ht
     conv => whnf
     repeat' first | ((first | refine z0 ?_ | (refine zP (fun h => ?_) (fun h => ?_) <;> (try simp only [aB, aD] at h)) | refine zS ?_ | refine zV ?_ | (apply zI; refine zP aK ?_) | (apply zI; refine zP aH ?_) | refine zA ?_ | refine Alt.fst ?_ | refine Or.inl ?_) <;> conv => whnf) | fail
     · have hkn : i + t < n := aF
       have hne : (f.c i).c j ≠ 0 := fun e => absurd (Zm.val_eq_zero.2 e) (by assumption)
       refine aR Tryz.tabOk aE (α := Nat) (fun s => [(17, aA ((j : Int) + s))]) (fun s => [(2, some ⟨false, 1, rows true (Tb n (bL f a b (bK f a b n (bJ f a b n (bI f a b n i) i j) i j t) i j (i + t) s))⟩)]) (fun s => s ≤ n - (i + t) - j) (fun s => n - s) (0) ?_ ?_ ?_
       · omega
       · conv => whnf
         first | refine aG.autoR ?_ | refine aC.autoR ?_
         conv => whnf
         repeat' ((first | refine z1 ?_ | refine zP ?_ ?_ | exact trivial) <;> try (conv => whnf))
         all_goals first | rfl | omega
       intro s hs
       conv => whnf
       have hx1 := Zm.val_range hm.pos (((bL f a b (bK f a b n (bJ f a b n (bI f a b n i) i j) i j t) i j (i + t) s).c (i + t)).c (j + s))
       have hx2 := hm.mul ((f.c i).c j) ((pw a i).c (i + t))
       have hx3 := hm.mul ((f.c i).c j * (pw a i).c (i + t)) ((pw b j).c (j + s))
       repeat' first | ((first | (apply zI; refine zP (qB i aN aF) ?_) | (apply zI; refine zP (qB j aN aF) ?_) | (apply zI; refine zP (xN (i := i) (l := i + t) aN aN aF aF) ?_) | (apply zI; refine zP (xN (i := j) (l := j + s) aN aN aF aF) ?_) | (refine zP (fun h => ?_) (fun h => ?_) <;> (try simp only [aB, aD] at h)) | refine zS ?_ | refine zV ?_ | (apply zI; refine zP aK ?_) | (apply zI; refine zP aH ?_) | refine zP (G0 aF) ?_) <;> conv => whnf) | fail
       · rw [fF hm]
         repeat' first | ((first | (apply zI; refine zP (qB i aN aF) ?_) | (apply zI; refine zP (qB j aN aF) ?_) | (apply zI; refine zP (xN (i := i) (l := i + t) aN aN aF aF) ?_) | (apply zI; refine zP (xN (i := j) (l := j + s) aN aN aF aF) ?_) | (refine zP (fun h => ?_) (fun h => ?_) <;> (try simp only [aB, aD] at h)) | refine zS ?_ | refine zV ?_ | (apply zI; refine zP aK ?_) | (apply zI; refine zP aH ?_) | refine zP (G0 aF) ?_) <;> conv => whnf) | fail
         refine Exists.intro (s + 1) (zP aF (zP aF ?_))
         first | refine aG.autoR ?_ | refine aC.autoR ?_
         conv => whnf
         repeat' ((first | refine z1 ?_ | refine zP ?_ ?_ | exact trivial) <;> try (conv => whnf))
         all_goals first
           | exact bV (dX _ (kO hm _ _ _) aF (cC.of_eq rfl))
           | omega
       · refine Exists.intro (t + 1) (zP ⟨aF, fun e => absurd e hne⟩ (zP aF ?_))
         first | refine aG.autoR ?_ | refine aC.autoR ?_
         conv => whnf
         repeat' ((first | refine z1 ?_ | refine zP ?_ ?_ | exact trivial) <;> try (conv => whnf))
         all_goals first
           | (rw [show s = n - (i + t) - j from aF]; rfl)
           | omega
     · have he : (f.c i).c j = 0 := Zm.val_eq_zero.1 (Classical.not_not.1 (by assumption))
       refine Exists.intro (j + 1) (zP aF (zP aF ?_))
       first | refine aG.autoR ?_ | refine aC.autoR ?_
       conv => whnf
       repeat' ((first | refine z1 ?_ | refine zP ?_ ?_ | exact trivial) <;> try (conv => whnf))
       have h0 := ht0 he
       subst h0
       show rows true (Tb n (bJ f a b n (bI f a b n i) i j)) = rows true (Tb n (bJ f a b n (bI f a b n i) i (j + 1)))
       rw [show bJ f a b n (bI f a b n i) i (j + 1) = bJ f a b n (bI f a b n i) i j from if_pos he]
     · have htn : t = n - i := aF
       have he : ¬ (f.c i).c j = 0 := fun e => by have := ht0 e; omega
       refine Exists.intro (j + 1) (zP aF (zP aF ?_))
       first | refine aG.autoR ?_ | refine aC.autoR ?_
       conv => whnf
       repeat' ((first | refine z1 ?_ | refine zP ?_ ?_ | exact trivial) <;> try (conv => whnf))
       subst htn
       rw [show bJ f a b n (bI f a b n i) i (j + 1) = bK f a b n (bJ f a b n (bI f a b n i) i j) i j (n - i) from if_neg he]
   · have hjn : j = n - i := aF
     subst hjn
     refine Exists.intro (i + 1) (zP aF (zP aF ?_))
     first | refine aG.autoR ?_ | refine aC.autoR ?_
     conv => whnf
     repeat' ((first | refine z1 ?_ | refine zP ?_ ?_ | exact trivial) <;> try (conv => whnf))
     all_goals rfl
 · rw [show i = n from aF]
theorem At6 (o : Bool) (sz : Nat) (cs : List D) : ∀ d ∈ [D.list o sz cs], d.one = true := fun d hd => by
 rw [List.mem_singleton.1 hd]; rfl
theorem zN (f : PS (PS (Zm m))) {n i : Nat} {l : List Int} (h : i < n) (e : l = L (n - i) (f.c i)) : (Tb n f).take i ++ [l] = (Tb n f).take (i + 1) := by
 subst e
 rw [List.take_add_one, ← lO f h, List.getD_eq_getElem?_getD, List.getElem?_eq_getElem (by simpa using h)]; rfl
theorem zJ (o : Bool) (l : List Int) (hl : l.length ≤ 1048576) : aL Tryz.prog 133 [.list o 1 (ints l)] (.list true 1 (ints l)) := by
 refine aX Tryz.tabOk aE Tryz.func133 rfl rfl ?_
 conv => whnf
 repeat' first | ((first | refine z0 ?_ | (refine zP (fun h => ?_) (fun h => ?_) <;> (try simp only [aB, aD] at h)) | refine zS ?_ | refine zV ?_ | (apply zI; refine zP aK ?_) | (apply zI; refine zP aH ?_) | refine zA ?_ | refine Alt.fst ?_ | refine Or.inl ?_) <;> conv => whnf) | fail
 rfl
theorem lE (hm : Md m) (o p o' p' : Bool) (n : Nat) (hn : 1 ≤ n ∧ n ≤ 100) (f g : PS (PS (Zm m))) : aL Tryz.prog 227 [aA m, cH o p n f, cH o' p' n g] (cH true true n (f + g)) := by
 have hT : ∀ i, i < n → (Tb n (f + g)).take i ++ [L (n - i) (f.c i + g.c i)] = (Tb n (f + g)).take (i + 1) := fun i hi => zN _ hi rfl
 refine aX Tryz.tabOk aE Tryz.func227 rfl rfl ?_
 conv => whnf
 repeat' first | ((first | refine z0 ?_ | (refine zP (fun h => ?_) (fun h => ?_) <;> (try simp only [aB, aD] at h)) | refine zS ?_ | refine zV ?_ | (apply zI; refine zP aK ?_) | (apply zI; refine zP aH ?_) | refine zA ?_ | refine Alt.fst ?_ | refine Or.inl ?_) <;> conv => whnf) | fail
 refine aR Tryz.tabOk aE (α := Nat) (fun i => [(8, aA i), (7, .ref 0 [] 1 0 i), (9, .undef), (16, .undef)]) (fun i => [(0, some ⟨false, 1, rows true ((Tb n (f + g)).take i)⟩)]) (fun i => i ≤ n) (fun i => n - i) (0) ?_ ?_ ?_
 · omega
 · conv => whnf
   first | refine aG.autoR ?_ | refine aC.autoR ?_
   conv => whnf
   repeat' ((first | refine z1 ?_ | refine zP ?_ ?_ | exact trivial) <;> try (conv => whnf))
 intro i hi
 conv => whnf
 repeat' first | ((first | refine z0 ?_ | (apply zI; refine zP (Ag0 hm _ _ (n - i) (by omega) (f.c i) (g.c i)) ?_) | (refine zP (fun h => ?_) (fun h => ?_) <;> (try simp only [aB, aD] at h)) | refine zS ?_ | refine zV ?_ | (apply zI; refine zP aH ?_) | (refine zP ((by simp; omega)) ?_) | refine Alt.fst ?_ | refine Or.inl ?_) <;> conv => whnf) | fail
 · refine Exists.intro (i + 1) (zP aF (zP aF ?_))
   first | refine aG.autoR ?_ | refine aC.autoR ?_
   conv => whnf
   repeat' ((first | refine z1 ?_ | refine zP ?_ ?_ | exact trivial) <;> try (conv => whnf))
   exact bV (hT i aF)
 · have e : i = n := aF
   subst e
   exact congrArg (D.list true 1) (bV (List.take_of_length_le (by simp)))
theorem jM (hm : Md m) (o p : Bool) (n : Nat) (hn : 1 ≤ n ∧ n ≤ 100) (z : Zm m) {Z : Int} (hZ : Z = z.val) (f : PS (PS (Zm m))) : aL Tryz.prog 228 [aA m, aA Z, cH o p n f] (cH true true n (PS.C (PS.C z) * f)) := by
 subst hZ
 have hT : ∀ i, i < n → (Tb n (PS.C (PS.C z) * f)).take i ++ [L (n - i) (PS.C z * f.c i)] = (Tb n (PS.C (PS.C z) * f)).take (i + 1) := fun i hi => zN _ hi (by rw [C_mul])
 refine aX Tryz.tabOk aE Tryz.func228 rfl rfl ?_
 conv => whnf
 repeat' first | ((first | refine z0 ?_ | (refine zP (fun h => ?_) (fun h => ?_) <;> (try simp only [aB, aD] at h)) | refine zS ?_ | refine zV ?_ | (apply zI; refine zP aK ?_) | (apply zI; refine zP aH ?_) | refine zA ?_ | refine Alt.fst ?_ | refine Or.inl ?_) <;> conv => whnf) | fail
 refine aR Tryz.tabOk aE (α := Nat) (fun i => [(8, aA i), (7, .ref 0 [] 1 0 i), (9, .undef), (16, .undef)]) (fun i => [(0, some ⟨false, 1, rows true ((Tb n (PS.C (PS.C z) * f)).take i)⟩)]) (fun i => i ≤ n) (fun i => n - i) (0) ?_ ?_ ?_
 · omega
 · conv => whnf
   first | refine aG.autoR ?_ | refine aC.autoR ?_
   conv => whnf
   repeat' ((first | refine z1 ?_ | refine zP ?_ ?_ | exact trivial) <;> try (conv => whnf))
 intro i hi
 conv => whnf
 repeat' first | ((first | refine z0 ?_ | (apply zI; refine zP (Adf hm _ (n - i) (by omega) z (f.c i)) ?_) | (refine zP (fun h => ?_) (fun h => ?_) <;> (try simp only [aB, aD] at h)) | refine zV ?_ | (apply zI; refine zP aH ?_) | (refine zP ((by simp; omega)) ?_) | refine Or.inl ?_) <;> conv => whnf) | fail
 · refine Exists.intro (i + 1) (zP aF (zP aF ?_))
   first | refine aG.autoR ?_ | refine aC.autoR ?_
   conv => whnf
   repeat' ((first | refine z1 ?_ | refine zP ?_ ?_ | exact trivial) <;> try (conv => whnf))
   exact bV (hT i aF)
 · have e : i = n := aF
   subst e
   exact congrArg (D.list true 1) (bV (List.take_of_length_le (by simp)))
theorem Aoa (o p : Bool) (n k : Nat) {d : Int} (hd : d + 1 = k) (hk : k ≤ n) (hn : n ≤ 100) (f : PS (PS (Zm m))) : aL Tryz.prog 240 [cH o p n f, aA d] (cH true true k f) := by
 have hT : ∀ i, i < k → (Tb k f).take i ++ [L (k - i) (f.c i)] = (Tb k f).take (i + 1) := fun i hi => zN _ hi rfl
 have hd2 : d = (k : Int) - 1 := by omega
 subst hd2
 refine aX Tryz.tabOk aE Tryz.func240 rfl rfl ?_
 conv => whnf
 repeat' first | ((first | refine z0 ?_ | (refine zP (fun h => ?_) (fun h => ?_) <;> (try simp only [aB, aD] at h)) | refine zS ?_ | refine zV ?_ | (apply zI; refine zP aK ?_) | (apply zI; refine zP aH ?_) | refine zA ?_ | refine Alt.fst ?_ | refine Or.inl ?_) <;> conv => whnf) | fail
 refine aR Tryz.tabOk aE (α := Nat) (fun i => [(6, aA i), (5, .ref 0 [] 1 0 i), (7, .undef), (13, .undef)]) (fun i => [(0, some ⟨false, 1, rows true ((Tb k f).take i)⟩)]) (fun i => i ≤ k) (fun i => k - i) (0) ?_ ?_ ?_
 · omega
 · conv => whnf
   first | refine aG.autoR ?_ | refine aC.autoR ?_
   conv => whnf
   repeat' ((first | refine z1 ?_ | refine zP ?_ ?_ | exact trivial) <;> try (conv => whnf))
 intro i hi
 conv => whnf
 repeat' first | ((first | refine z0 ?_ | (apply zI; refine zP (zJ _ _ (by rw [aV]; omega)) ?_) | (refine zP (fun h => ?_) (fun h => ?_) <;> (try simp only [aB, aD] at h) <;> first | (exfalso; omega) | skip) | refine zV ?_ | (apply zI; refine zP aH ?_) | (refine zP ((by simp; omega)) ?_) | refine Or.inl ?_) <;> conv => whnf) | fail
 · have hik : i < k := by omega
   refine Exists.intro (i + 1) (zP (by omega) (zP (by omega) ?_))
   first | refine aG.autoR ?_ | refine aC.autoR ?_
   conv => whnf
   repeat' ((first | refine z1 ?_ | refine zP ?_ ?_ | exact trivial) <;> try (conv => whnf))
   rw [show ((k : Int) - 1 - i + 1).toNat = k - i by omega]
   exact bV (hT i hik)
 · have e : i = k := by omega
   subst e
   exact congrArg (D.list true 1) (bV (List.take_of_length_le (by simp)))
def cU (n : Nat) (z : Zm m) : PS (PS (Zm m)) := if 2 < n then bT (bT (bT 0 1 0 1) 0 1 1) 1 1 z else bT (bT 0 1 0 1) 0 1 1
def nQ (c : Zm m) : Nat → Zm m
 | 0 => 1
 | k + 1 => nQ c k * -c
def gX (c : Zm m) : Nat → PS (PS (Zm m))
 | 0 => 0
 | k + 1 => bT (bT (gX c k) (k + 1) k (nQ c k)) k (k + 1) (nQ c k)
theorem tJ (hm : Md m) : (1 : Int).tmod m = (1 : Zm m).val := by
 rw [Zm.val_one (by have := hm.1; omega)]
 have := hm.1
 rw [Int.tmod_eq_of_lt (by omega) (by omega)]
theorem oH (hm : Md m) {x : Int} (hx : 0 ≤ x) : x.tmod m = (Zm.mk m x).val := by
 rw [Int.tmod_eq_emod_of_nonneg hx]; rfl
theorem S5 (hm : Md m) (x c : Zm m) : (x.val * (m - c.val)).tmod m = (x * -c).val := by
 rw [Int.mul_comm, F4 hm, CR.mul_comm c x]
 congr 1
 exact (Go.Fg.mul_neg x c).symm
theorem Ak5 {x y : Int} (hx : 0 ≤ x ∧ x ≤ 10000) (hy : 0 ≤ y ∧ y ≤ 10000) : 0 ≤ x * y ∧ x * y ≤ 100000000 :=
 ⟨Int.mul_nonneg hx.1 hy.1, by have := Int.mul_le_mul hx.2 hy.2 hy.1 (by omega : (0 : Int) ≤ 10000); omega⟩
theorem nJ (hm : Md m) (w x y : Zm m) : (w.val + (m - x.val) * y.val).tmod m = (w + -x * y).val := by
 have h1 := tZ hm x y
 have h2 := Zm.val_range hm.pos w
 exact Zm.tmod_val (by omega) (by rw [Zm.mk_add, Zm.mk_mul, Zm.mk_sub, Zm.mk_val, Zm.mk_val, Zm.mk_val, Zm.mk_self, Go.Fg.sub_def, CR.zero_add])
theorem sB {n q i : Nat} {a : PS (Zm m)} (e : q = i) (h : i < n) : eK (ints (L n a)) [] q (aA (a.c i).val) := by
 subst e; exact ⟨_, rfl, by simp [ints, L, h]⟩
theorem O4 (hm : Md m) (n : Nat) (hn : 2 ≤ n ∧ n ≤ 11) {d : Int} (hd : d + 1 = n) (z : Zm m) : aL Tryz.prog 98 [aA m, aA d, aA z.val] (cH true true n (cU n z)) := by
 have hm1 := hm.1
 have hm2 := hm.2
 refine aX Tryz.tabOk aE Tryz.func98 rfl rfl ?_
 conv => whnf
 repeat' first | ((first | (apply zI; refine zP (kT (m := m) n aF aF) ?_) | (refine zP (fun h => ?_) (fun h => ?_) <;> (try simp only [aB, aD] at h)) | refine zV ?_ | (apply zI; refine zP aK ?_) | (apply zI; refine zP aH ?_) | refine Or.inl ?_) <;> conv => whnf) | fail
 have h1 : (1 : Int) = (1 : Zm m).val := (Zm.val_one (by omega)).symm
 rw [show cR (Tb n (0 : PS (PS (Zm m)))) 1 0 1 = Tb n (bT 0 1 0 1) from dX (1 : Zm m) h1 (by omega) (cC.of_eq rfl)]
 repeat' first | ((first | refine z0 ?_ | (refine zP (fun h => ?_) (fun h => ?_) <;> (try simp only [aB, aD] at h)) | refine zS ?_ | refine zV ?_ | (apply zI; refine zP aK ?_) | (apply zI; refine zP aH ?_) | refine zA ?_ | refine Alt.fst ?_ | refine Or.inl ?_) <;> conv => whnf) | fail
 · rw [show cR (Tb n (bT (0 : PS (PS (Zm m))) 1 0 1)) 0 1 1 = Tb n (bT (bT 0 1 0 1) 0 1 1) from dX (1 : Zm m) h1 (by omega) (cC.of_eq rfl)]
   repeat' first | ((first | refine z0 ?_ | (refine zP (fun h => ?_) (fun h => ?_) <;> (try simp only [aB, aD] at h)) | refine zS ?_ | refine zV ?_ | (apply zI; refine zP aK ?_) | (apply zI; refine zP aH ?_) | refine zA ?_ | refine Alt.fst ?_ | refine Or.inl ?_) <;> conv => whnf) | fail
   have h2 : 2 < n := by omega
   exact sK (dX z rfl (by omega) (cC.of_eq (by rw [cU, if_pos h2])))
 · have h2 : ¬ 2 < n := by omega
   exact sK (dX (1 : Zm m) h1 (by omega) (cC.of_eq (by rw [cU, if_neg h2])))
theorem Ah2 (hm : Md m) (n : Nat) (hn : 2 ≤ n ∧ n ≤ 11) {d : Int} (hd : d + 1 = n) (c : Zm m) : aL Tryz.prog 104 [aA m, aA d, aA c.val] (cH true true n (gX c (n / 2))) := by
 have hm1 := hm.1
 have hm2 := hm.2
 refine aX Tryz.tabOk aE Tryz.func104 rfl rfl ?_
 conv => whnf
 repeat' first | ((first | (apply zI; refine zP (kT (m := m) n aF aF) ?_) | (refine zP (fun h => ?_) (fun h => ?_) <;> (try simp only [aB, aD] at h)) | refine zV ?_ | (apply zI; refine zP aK ?_) | (apply zI; refine zP aH ?_) | refine Or.inl ?_) <;> conv => whnf) | fail
 refine aR Tryz.tabOk aE (α := Nat) (fun k => [(8, aA (nQ c k).val), (9, aA k)]) (fun k => [(0, some ⟨false, 1, rows true (Tb n (gX c k))⟩)]) (fun k => k ≤ n / 2) (fun k => n - k) (0) ?_ ?_ ?_
 · omega
 · conv => whnf
   first | refine aG.autoR ?_ | refine aC.autoR ?_
   conv => whnf
   repeat' ((first | refine z1 ?_ | refine zV ?_ | refine zP ?_ ?_ | exact trivial) <;> try (conv => whnf))
   all_goals first | exact tJ hm | (rw [tJ hm]; rfl) | (simp [tJ hm, nQ]; done)
 intro k hk
 conv => whnf
 have hx1 := Zm.val_range hm.pos (nQ c k)
 have hx2 := Zm.val_range hm.pos c
 have hx3 := Ak5 (x := (nQ c k).val) (y := m - c.val) (by omega) (by omega)
 repeat' first | ((first | refine z0 ?_ | (refine zP (fun h => ?_) (fun h => ?_) <;> (try simp only [aB, aD] at h)) | refine zS ?_ | refine zV ?_ | (apply zI; refine zP aK ?_) | (apply zI; refine zP aH ?_) | refine zA ?_ | refine Alt.fst ?_ | refine Or.inl ?_) <;> conv => whnf) | fail
 · have hk2 : 2 * k + 1 < n := by omega
   rw [show cR (Tb n (gX c k)) (k + 1) k (nQ c k).val = Tb n (bT (gX c k) (k + 1) k (nQ c k)) from dX _ rfl (by omega) (cC.of_eq rfl)]
   repeat' first | ((first | refine z0 ?_ | (refine zP (fun h => ?_) (fun h => ?_) <;> (try simp only [aB, aD] at h)) | refine zS ?_ | refine zV ?_ | (apply zI; refine zP aK ?_) | (apply zI; refine zP aH ?_) | refine zA ?_ | refine Alt.fst ?_ | refine Or.inl ?_) <;> conv => whnf) | fail
   refine Exists.intro (k + 1) (zP aF (zP aF ?_))
   first | refine aG.autoR ?_ | refine aC.autoR ?_
   conv => whnf
   repeat' ((first | refine z1 ?_ | refine zV ?_ | refine zP ?_ ?_ | exact trivial) <;> try (conv => whnf))
   all_goals first
     | exact congrArg aA (S5 hm _ _)
     | exact bV (dX _ rfl (by omega) (cC.of_eq rfl))
     | exact S5 hm _ _
 · have hk2 : k = n / 2 := by omega
   rw [hk2]
def rW (a e : Zm m) (s : PS (Zm m)) (k : Nat) : Nat → Zm m
 | 0 => if k = 4 then e else if k = 2 then Zm.mk m (2 * m - 2 * a.val) else 0
 | i + 1 => rW a e s k i + -(s.c (i + 1)) * s.c (k - (i + 1))
def rS (a e h : Zm m) : Nat → PS (Zm m)
 | 0 => (0 : PS (Zm m)).upd 0 1
 | t + 1 => (rS a e h t).upd (t + 1) (rW a e (rS a e h t) (t + 1) t * h)
theorem Agi (hm : Md m) (n : Nat) (hn : 2 ≤ n ∧ n ≤ 11) {d : Int} (hd : d + 1 = n) (a e : Zm m) : aL Tryz.prog 222 [aA m, aA d, aA a.val, aA e.val] (LD true n (rS a e (aY m 2) (n - 1))) := by
 have hm1 := hm.1
 have hm2 := hm.2
 refine aX Tryz.tabOk aE Tryz.func222 rfl rfl ?_
 conv => whnf
 repeat' first | ((first | (apply zI; refine zP (D2 hm 2) ?_) | refine zS ?_ | refine zV ?_ | (apply zI; refine zP aH ?_) | refine Alt.fst ?_ | refine Or.inl ?_) <;> conv => whnf) | fail
 refine aR Tryz.tabOk aE (α := Nat) (fun t => [(11, aA ((t : Int) + 1)), (10, .ref 1 [] 1 0 n), (18, .undef), (19, .undef), (20, .undef)]) (fun t => [(1, some ⟨false, 1, ints (L n (rS a e (aY m 2) t))⟩)]) (fun t => t + 1 ≤ n) (fun t => n - t) (0) ?_ ?_ ?_
 · omega
 · conv => whnf
   first | refine aG.autoR ?_ | refine aC.autoR ?_
   conv => whnf
   repeat' ((first | refine z1 ?_ | refine zV ?_ | refine zP ?_ ?_ | exact trivial) <;> try (conv => whnf))
   all_goals first
     | omega
     | exact cQ (by rw [show (d + 1).toNat = n by omega, ← fT (m := m)]; exact eW (1 : Zm m) (Zm.val_one (by omega)).symm (fun k hk => by rw [cL]; rfl))
 intro t ht
 conv => whnf
 have hx1 := Zm.val_range hm.pos a
 have hx2 := Zm.val_range hm.pos e
 by_cases htn : t + 1 < n
 · repeat' first | ((first | refine z0 ?_ | (refine zP (fun h => ?_) (fun h => ?_) <;> (try simp only [aB, aD] at h) <;> first | (exfalso; omega) | skip) | refine zS ?_ | refine zV ?_ | (apply zI; refine zP aK ?_) | (apply zI; refine zP aH ?_)) <;> conv => whnf) | fail
   · refine aR Tryz.tabOk aE (α := Nat) (fun i => [(12, aA (rW a e (rS a e (aY m 2) t) (t + 1) i).val), (13, aA ((i : Int) + 1))]) (fun i => []) (fun i => i ≤ t) (fun i => t - i) (0) ?_ ?_ ?_
     · omega
     · conv => whnf
       first | refine aG.autoR ?_ | refine aC.autoR ?_
       conv => whnf
       repeat' ((first | refine z1 ?_ | refine zV ?_ | refine zP ?_ ?_ | exact trivial) <;> try (conv => whnf))
       all_goals first
         | (rw [rW, if_pos (by omega)]; done)
         | (rw [rW, if_neg (by omega), if_pos (by omega)]; exact oH hm (by omega))
         | (rw [rW, if_neg (by omega), if_neg (by omega)]; exact Zm.val_zero.symm)
         | (rw [rW, if_neg (by omega), if_neg (by omega)]; rfl)
     intro i hi
     conv => whnf
     have hx3 := Zm.val_range hm.pos ((rS a e (aY m 2) t).c (i + 1))
     have hx4 := Zm.val_range hm.pos ((rS a e (aY m 2) t).c (t - i))
     have hx5 := tZ hm ((rS a e (aY m 2) t).c (i + 1)) ((rS a e (aY m 2) t).c (t - i))
     have hx6 := Zm.val_range hm.pos (rW a e (rS a e (aY m 2) t) (t + 1) i)
     have hx7 := hm.mul (rW a e (rS a e (aY m 2) t) (t + 1) i) (aY m 2)
     repeat' first | ((first | (apply zI; refine zP (sB (i := i + 1) aN aF) ?_) | (apply zI; refine zP (sB (i := t - i) (by simp only [eY] at *; omega) aF) ?_) | (refine zP (fun h => ?_) (fun h => ?_) <;> (try simp only [aB, aD] at h)) | refine zS ?_ | refine zV ?_ | (apply zI; refine zP aH ?_)) <;> conv => whnf) | fail
     · refine Exists.intro (i + 1) (zP aF (zP aF ?_))
       first | refine aG.autoR ?_ | refine aC.autoR ?_
       conv => whnf
       repeat' ((first | refine z1 ?_ | refine zV ?_ | refine zP ?_ ?_ | exact trivial) <;> try (conv => whnf))
       all_goals first
         | exact congrArg aA (nJ hm _ _ _)
         | exact nJ hm _ _ _
         | (rw [show rW a e (rS a e (aY m 2) t) (t + 1) (i + 1) = rW a e (rS a e (aY m 2) t) (t + 1) i + -((rS a e (aY m 2) t).c (i + 1)) * (rS a e (aY m 2) t).c (t - i) by rw [rW, show t + 1 - (i + 1) = t - i by omega]]; exact nJ hm _ _ _)
     · have hit : i = t := by omega
       refine Exists.intro (t + 1) (zP aF (zP aF ?_))
       first | refine aG.autoR ?_ | refine aC.autoR ?_
       conv => whnf
       repeat' ((first | refine z1 ?_ | refine zV ?_ | refine zP ?_ ?_ | exact trivial) <;> try (conv => whnf))
       all_goals first
         | omega
         | exact cQ (eW _ (by rw [fF hm, hit]) (fun k hk => rfl))
   · refine aR Tryz.tabOk aE (α := Nat) (fun i => [(12, aA (rW a e (rS a e (aY m 2) t) (t + 1) i).val), (13, aA ((i : Int) + 1))]) (fun i => []) (fun i => i ≤ t) (fun i => t - i) (0) ?_ ?_ ?_
     · omega
     · conv => whnf
       first | refine aG.autoR ?_ | refine aC.autoR ?_
       conv => whnf
       repeat' ((first | refine z1 ?_ | refine zV ?_ | refine zP ?_ ?_ | exact trivial) <;> try (conv => whnf))
       all_goals first
         | (rw [rW, if_pos (by omega)]; done)
         | (rw [rW, if_neg (by omega), if_pos (by omega)]; exact oH hm (by omega))
         | (rw [rW, if_neg (by omega), if_neg (by omega)]; exact Zm.val_zero.symm)
         | (rw [rW, if_neg (by omega), if_neg (by omega)]; rfl)
     intro i hi
     conv => whnf
     have hx3 := Zm.val_range hm.pos ((rS a e (aY m 2) t).c (i + 1))
     have hx4 := Zm.val_range hm.pos ((rS a e (aY m 2) t).c (t - i))
     have hx5 := tZ hm ((rS a e (aY m 2) t).c (i + 1)) ((rS a e (aY m 2) t).c (t - i))
     have hx6 := Zm.val_range hm.pos (rW a e (rS a e (aY m 2) t) (t + 1) i)
     have hx7 := hm.mul (rW a e (rS a e (aY m 2) t) (t + 1) i) (aY m 2)
     repeat' first | ((first | (apply zI; refine zP (sB (i := i + 1) aN aF) ?_) | (apply zI; refine zP (sB (i := t - i) (by simp only [eY] at *; omega) aF) ?_) | (refine zP (fun h => ?_) (fun h => ?_) <;> (try simp only [aB, aD] at h)) | refine zS ?_ | refine zV ?_ | (apply zI; refine zP aH ?_)) <;> conv => whnf) | fail
     · refine Exists.intro (i + 1) (zP aF (zP aF ?_))
       first | refine aG.autoR ?_ | refine aC.autoR ?_
       conv => whnf
       repeat' ((first | refine z1 ?_ | refine zV ?_ | refine zP ?_ ?_ | exact trivial) <;> try (conv => whnf))
       all_goals first
         | exact congrArg aA (nJ hm _ _ _)
         | exact nJ hm _ _ _
         | (rw [show rW a e (rS a e (aY m 2) t) (t + 1) (i + 1) = rW a e (rS a e (aY m 2) t) (t + 1) i + -((rS a e (aY m 2) t).c (i + 1)) * (rS a e (aY m 2) t).c (t - i) by rw [rW, show t + 1 - (i + 1) = t - i by omega]]; exact nJ hm _ _ _)
     · have hit : i = t := by omega
       refine Exists.intro (t + 1) (zP aF (zP aF ?_))
       first | refine aG.autoR ?_ | refine aC.autoR ?_
       conv => whnf
       repeat' ((first | refine z1 ?_ | refine zV ?_ | refine zP ?_ ?_ | exact trivial) <;> try (conv => whnf))
       all_goals first
         | omega
         | exact cQ (eW _ (by rw [fF hm, hit]) (fun k hk => rfl))
   · refine aR Tryz.tabOk aE (α := Nat) (fun i => [(12, aA (rW a e (rS a e (aY m 2) t) (t + 1) i).val), (13, aA ((i : Int) + 1))]) (fun i => []) (fun i => i ≤ t) (fun i => t - i) (0) ?_ ?_ ?_
     · omega
     · conv => whnf
       first | refine aG.autoR ?_ | refine aC.autoR ?_
       conv => whnf
       repeat' ((first | refine z1 ?_ | refine zV ?_ | refine zP ?_ ?_ | exact trivial) <;> try (conv => whnf))
       all_goals first
         | (rw [rW, if_pos (by omega)]; done)
         | (rw [rW, if_neg (by omega), if_pos (by omega)]; exact oH hm (by omega))
         | (rw [rW, if_neg (by omega), if_neg (by omega)]; exact Zm.val_zero.symm)
         | (rw [rW, if_neg (by omega), if_neg (by omega)]; rfl)
     intro i hi
     conv => whnf
     have hx3 := Zm.val_range hm.pos ((rS a e (aY m 2) t).c (i + 1))
     have hx4 := Zm.val_range hm.pos ((rS a e (aY m 2) t).c (t - i))
     have hx5 := tZ hm ((rS a e (aY m 2) t).c (i + 1)) ((rS a e (aY m 2) t).c (t - i))
     have hx6 := Zm.val_range hm.pos (rW a e (rS a e (aY m 2) t) (t + 1) i)
     have hx7 := hm.mul (rW a e (rS a e (aY m 2) t) (t + 1) i) (aY m 2)
     repeat' first | ((first | (apply zI; refine zP (sB (i := i + 1) aN aF) ?_) | (apply zI; refine zP (sB (i := t - i) (by simp only [eY] at *; omega) aF) ?_) | (refine zP (fun h => ?_) (fun h => ?_) <;> (try simp only [aB, aD] at h)) | refine zS ?_ | refine zV ?_ | (apply zI; refine zP aH ?_)) <;> conv => whnf) | fail
     · refine Exists.intro (i + 1) (zP aF (zP aF ?_))
       first | refine aG.autoR ?_ | refine aC.autoR ?_
       conv => whnf
       repeat' ((first | refine z1 ?_ | refine zV ?_ | refine zP ?_ ?_ | exact trivial) <;> try (conv => whnf))
       all_goals first
         | exact congrArg aA (nJ hm _ _ _)
         | exact nJ hm _ _ _
         | (rw [show rW a e (rS a e (aY m 2) t) (t + 1) (i + 1) = rW a e (rS a e (aY m 2) t) (t + 1) i + -((rS a e (aY m 2) t).c (i + 1)) * (rS a e (aY m 2) t).c (t - i) by rw [rW, show t + 1 - (i + 1) = t - i by omega]]; exact nJ hm _ _ _)
     · have hit : i = t := by omega
       refine Exists.intro (t + 1) (zP aF (zP aF ?_))
       first | refine aG.autoR ?_ | refine aC.autoR ?_
       conv => whnf
       repeat' ((first | refine z1 ?_ | refine zV ?_ | refine zP ?_ ?_ | exact trivial) <;> try (conv => whnf))
       all_goals first
         | omega
         | exact cQ (eW _ (by rw [fF hm, hit]) (fun k hk => rfl))
 · repeat' first | ((first | refine z0 ?_ | (refine zP (fun h => ?_) (fun h => ?_) <;> (try simp only [aB, aD] at h) <;> first | (exfalso; omega) | skip) | refine zS ?_ | refine zV ?_ | (apply zI; refine zP aK ?_) | (apply zI; refine zP aH ?_)) <;> conv => whnf) | fail
   have htn2 : t = n - 1 := by omega
   rw [htn2]
def J4 (r : PS (Zm m)) : Nat → PS (PS (Zm m))
 | 0 => 0
 | i + 1 => bT (J4 r i) 1 i (r.c i)
def iC (r : PS (Zm m)) (d : Nat) : Nat → PS (PS (Zm m))
 | 0 => J4 r d
 | i + 1 => bT (iC r d i) i 1 (((iC r d i).c i).c 1 + r.c i)
def eP (e : Zm m) : Nat → Zm m
 | 0 => 1
 | k + 1 => eP e k * e
def eF (e : Zm m) : Nat → PS (PS (Zm m))
 | 0 => 0
 | k + 1 => bT (eF e k) (2 * k) (2 * k) (eP e k)
theorem Ago (hm : Md m) (n : Nat) (hn : 2 ≤ n ∧ n ≤ 11) {d : Int} (hd : d + 1 = n) (a e : Zm m) : aL Tryz.prog 112 [aA m, aA d, aA a.val, aA e.val] (cH true true n (iC (rS a e (aY m 2) (n - 1)) (n - 1) (n - 1) * eF e ((n + 3) / 4))) := by
 have hm1 := hm.1
 have hm2 := hm.2
 refine aX Tryz.tabOk aE Tryz.func112 rfl rfl ?_
 conv => whnf
 repeat' first | ((first | (apply zI; refine zP (kT (m := m) n aF aF) ?_) | (apply zI; refine zP (Agi hm n hn hd a e) ?_) | refine Or.inl ?_) <;> conv => whnf) | fail
 generalize rS a e (aY m 2) (n - 1) = r
 refine aR Tryz.tabOk aE (α := Nat) (fun i => [(12, aA i)]) (fun i => [(1, some ⟨false, 1, rows true (Tb n (J4 r i))⟩)]) (fun i => i + 1 ≤ n) (fun i => n - i) (0) ?_ ?_ ?_
 · omega
 · conv => whnf
   first | refine aG.autoR ?_ | refine aC.autoR ?_
   conv => whnf
   repeat' ((first | refine z1 ?_ | refine zV ?_ | refine zP ?_ ?_ | exact trivial) <;> try (conv => whnf))
   all_goals rfl
 intro i hi
 conv => whnf
 repeat' first | ((first | refine z0 ?_ | (refine zP (fun h => ?_) (fun h => ?_) <;> (try simp only [aB, aD] at h)) | refine zS ?_ | refine zV ?_ | (apply zI; refine zP aK ?_) | (apply zI; refine zP aH ?_) | refine zA ?_ | refine Alt.fst ?_ | refine Or.inl ?_) <;> conv => whnf) | fail
 · refine Exists.intro (i + 1) (zP aF (zP aF ?_))
   first | refine aG.autoR ?_ | refine aC.autoR ?_
   conv => whnf
   repeat' ((first | refine z1 ?_ | refine zV ?_ | refine zP ?_ ?_ | exact trivial) <;> try (conv => whnf))
   exact bV (dX (r.c i) rfl aF (cC.of_eq rfl))
 have hin : i = n - 1 := by omega
 subst hin
 refine aR Tryz.tabOk aE (α := Nat) (fun i => [(13, aA i), (14, .undef)]) (fun i => [(1, some ⟨false, 1, rows true (Tb n (iC r (n - 1) i))⟩)]) (fun i => i + 1 ≤ n) (fun i => n - i) (0) ?_ ?_ ?_
 · omega
 · conv => whnf
   first | refine aG.autoR ?_ | refine aC.autoR ?_
   conv => whnf
   repeat' ((first | refine z1 ?_ | refine zV ?_ | refine zP ?_ ?_ | exact trivial) <;> try (conv => whnf))
   all_goals rfl
 intro i hi2
 conv => whnf
 have hx1 := Zm.val_range hm.pos (((iC r (n - 1) i).c i).c 1)
 have hx2 := Zm.val_range hm.pos (r.c i)
 repeat' first | ((first | refine z0 ?_ | (refine zP (fun h => ?_) (fun h => ?_) <;> (try simp only [aB, aD] at h)) | refine zS ?_ | refine zV ?_ | (apply zI; refine zP aK ?_) | (apply zI; refine zP aH ?_) | refine zA ?_ | refine Alt.fst ?_ | refine Or.inl ?_) <;> conv => whnf) | fail
 · refine Exists.intro (i + 1) (zP aF (zP aF ?_))
   first | refine aG.autoR ?_ | refine aC.autoR ?_
   conv => whnf
   repeat' ((first | refine z1 ?_ | refine zV ?_ | refine zP ?_ ?_ | exact trivial) <;> try (conv => whnf))
   exact bV (dX _ (rM hm _ _) aF (cC.of_eq rfl))
 have hin : i = n - 1 := by omega
 subst hin
 repeat' first | ((first | refine z0 ?_ | (refine zP (fun h => ?_) (fun h => ?_) <;> (try simp only [aB, aD] at h)) | refine zS ?_ | refine zV ?_ | (apply zI; refine zP aK ?_) | (apply zI; refine zP aH ?_) | refine zA ?_ | refine Alt.fst ?_ | refine Or.inl ?_) <;> conv => whnf) | fail
 refine aR Tryz.tabOk aE (α := Nat) (fun k => [(15, aA (eP e k).val), (16, aA k)]) (fun k => [(2, some ⟨false, 1, rows true (Tb n (eF e k))⟩)]) (fun k => k ≤ (n + 3) / 4) (fun k => n - k) (0) ?_ ?_ ?_
 · omega
 · conv => whnf
   first | refine aG.autoR ?_ | refine aC.autoR ?_
   conv => whnf
   repeat' ((first | refine z1 ?_ | refine zV ?_ | refine zP ?_ ?_ | exact trivial) <;> try (conv => whnf))
   all_goals first | rfl | exact tJ hm | (rw [tJ hm]; rfl)
 intro k hk
 conv => whnf
 have hx3 := hm.mul (eP e k) e
 repeat' first | ((first | refine z0 ?_ | (apply zI; refine zP (nM hm _ _ _ _ n aF _ _) ?_) | (refine zP (fun h => ?_) (fun h => ?_) <;> (try simp only [aB, aD] at h)) | refine zS ?_ | refine zV ?_ | (apply zI; refine zP aK ?_) | (apply zI; refine zP aH ?_) | refine Or.inl ?_) <;> conv => whnf) | fail
 · refine Exists.intro (k + 1) (zP aF (zP aF ?_))
   first | refine aG.autoR ?_ | refine aC.autoR ?_
   conv => whnf
   repeat' ((first | refine z1 ?_ | refine zV ?_ | refine zP ?_ ?_ | exact trivial) <;> try (conv => whnf))
   all_goals first
     | exact fF hm _ _
     | exact bV (dX _ rfl aF (cC.of_eq rfl))
     | exact congrArg aA (fF hm _ _)
 have hkn : k = (n + 3) / 4 := by omega
 rw [hkn]
end Go.Proofs
