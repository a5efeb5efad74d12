import Derived.Test.YtghcpginhamelaaGreatAlg7
set_option linter.unusedVariables false
set_option linter.unusedSimpArgs false
namespace Go.Fg
theorem aX {m a b : Int} (c : Int) (h : m ∣ a) (h2 : m ∣ b) : m ∣ c * a + b := Int.dvd_add (Int.dvd_trans h (Int.dvd_mul_left _ _)) h2
theorem Aqg {m : Int} (x : Nat → Int) (hs : ∀ i, 1 ≤ i → i < 2 → x i = x (2 - i)) (hc : ∀ a b, 1 ≤ a → 1 ≤ b → a + b < 2 → m ∣ ((aS (a + b) a : Nat) : Int) * x (a + b) - ((aS (2 - a) b : Nat) : Int) * x a) : ∃ w : Int, ∀ i, 1 ≤ i → i < 2 → m ∣ x i - ((dE 2 i : Nat) : Int) * w := by
 refine ⟨(1) * x 1, fun i h1 h2 => ?_⟩
 have g1 : m ∣ x 1 - 1 * ((1) * x 1) := by
   have e : x 1 - 1 * ((1) * x 1) = 0 := by omega
   rw [e]; exact (Int.dvd_zero m)
 rw [show i = 1 by omega]; exact g1
theorem Aj2 {m : Int} (x : Nat → Int) (hs : ∀ i, 1 ≤ i → i < 3 → x i = x (3 - i)) (hc : ∀ a b, 1 ≤ a → 1 ≤ b → a + b < 3 → m ∣ ((aS (a + b) a : Nat) : Int) * x (a + b) - ((aS (3 - a) b : Nat) : Int) * x a) : ∃ w : Int, ∀ i, 1 ≤ i → i < 3 → m ∣ x i - ((dE 3 i : Nat) : Int) * w := by
 have s2 : x 2 = x 1 := hs 2 (by decide) (by decide)
 refine ⟨(1) * x 1, fun i h1 h2 => ?_⟩
 have g1 : m ∣ x 1 - 1 * ((1) * x 1) := by
   have e : x 1 - 1 * ((1) * x 1) = 0 := by omega
   rw [e]; exact (Int.dvd_zero m)
 rcases (show i = 1 ∨ i = 2 by omega) with rfl | rfl
 · exact g1
 · rw [s2]; exact g1
theorem Aoj {m : Int} (x : Nat → Int) (hs : ∀ i, 1 ≤ i → i < 4 → x i = x (4 - i)) (hc : ∀ a b, 1 ≤ a → 1 ≤ b → a + b < 4 → m ∣ ((aS (a + b) a : Nat) : Int) * x (a + b) - ((aS (4 - a) b : Nat) : Int) * x a) : ∃ w : Int, ∀ i, 1 ≤ i → i < 4 → m ∣ x i - ((dE 4 i : Nat) : Int) * w := by
 have s3 : x 3 = x 1 := hs 3 (by decide) (by decide)
 have c1_1 : m ∣ 2 * x 2 - 3 * x 1 := hc 1 1 (by decide) (by decide) (by decide)
 refine ⟨(-1) * x 1 + (1) * x 2, fun i h1 h2 => ?_⟩
 have g1 : m ∣ x 1 - 2 * ((-1) * x 1 + (1) * x 2) := by
   have e : x 1 - 2 * ((-1) * x 1 + (1) * x 2) = (-1) * (2 * x 2 - 3 * x 1) + (0) := by omega
   rw [e]; exact (aX (-1) c1_1 (Int.dvd_zero m))
 have g2 : m ∣ x 2 - 3 * ((-1) * x 1 + (1) * x 2) := by
   have e : x 2 - 3 * ((-1) * x 1 + (1) * x 2) = (-1) * (2 * x 2 - 3 * x 1) + (0) := by omega
   rw [e]; exact (aX (-1) c1_1 (Int.dvd_zero m))
 rcases (show i = 1 ∨ i = 2 ∨ i = 3 by omega) with rfl | rfl | rfl
 · exact g1
 · exact g2
 · rw [s3]; exact g1
theorem Ask {m : Int} (x : Nat → Int) (hs : ∀ i, 1 ≤ i → i < 5 → x i = x (5 - i)) (hc : ∀ a b, 1 ≤ a → 1 ≤ b → a + b < 5 → m ∣ ((aS (a + b) a : Nat) : Int) * x (a + b) - ((aS (5 - a) b : Nat) : Int) * x a) : ∃ w : Int, ∀ i, 1 ≤ i → i < 5 → m ∣ x i - ((dE 5 i : Nat) : Int) * w := by
 have s3 : x 3 = x 2 := hs 3 (by decide) (by decide)
 have s4 : x 4 = x 1 := hs 4 (by decide) (by decide)
 have c1_1 : m ∣ 2 * x 2 - 4 * x 1 := hc 1 1 (by decide) (by decide) (by decide)
 have c1_2 : m ∣ 3 * x 3 - 6 * x 1 := hc 1 2 (by decide) (by decide) (by decide)
 refine ⟨(1) * x 1, fun i h1 h2 => ?_⟩
 have g1 : m ∣ x 1 - 1 * ((1) * x 1) := by
   have e : x 1 - 1 * ((1) * x 1) = 0 := by omega
   rw [e]; exact (Int.dvd_zero m)
 have g2 : m ∣ x 2 - 2 * ((1) * x 1) := by
   have e : x 2 - 2 * ((1) * x 1) = (-1) * (2 * x 2 - 4 * x 1) + ((1) * (3 * x 3 - 6 * x 1) + (0)) := by omega
   rw [e]; exact (aX (-1) c1_1 (aX (1) c1_2 (Int.dvd_zero m)))
 rcases (show i = 1 ∨ i = 2 ∨ i = 3 ∨ i = 4 by omega) with rfl | rfl | rfl | rfl
 · exact g1
 · exact g2
 · rw [s3]; exact g2
 · rw [s4]; exact g1
theorem Aua {m : Int} (x : Nat → Int) (hs : ∀ i, 1 ≤ i → i < 6 → x i = x (6 - i)) (hc : ∀ a b, 1 ≤ a → 1 ≤ b → a + b < 6 → m ∣ ((aS (a + b) a : Nat) : Int) * x (a + b) - ((aS (6 - a) b : Nat) : Int) * x a) : ∃ w : Int, ∀ i, 1 ≤ i → i < 6 → m ∣ x i - ((dE 6 i : Nat) : Int) * w := by
 have s4 : x 4 = x 2 := hs 4 (by decide) (by decide)
 have s5 : x 5 = x 1 := hs 5 (by decide) (by decide)
 have c1_1 : m ∣ 2 * x 2 - 5 * x 1 := hc 1 1 (by decide) (by decide) (by decide)
 have c1_3 : m ∣ 4 * x 4 - 10 * x 1 := hc 1 3 (by decide) (by decide) (by decide)
 have c2_1 : m ∣ 3 * x 3 - 4 * x 2 := hc 2 1 (by decide) (by decide) (by decide)
 refine ⟨(1) * x 1 + (1) * x 2 + (-1) * x 3, fun i h1 h2 => ?_⟩
 have g1 : m ∣ x 1 - 6 * ((1) * x 1 + (1) * x 2 + (-1) * x 3) := by
   have e : x 1 - 6 * ((1) * x 1 + (1) * x 2 + (-1) * x 3) = (1) * (2 * x 2 - 5 * x 1) + ((2) * (3 * x 3 - 4 * x 2) + (0)) := by omega
   rw [e]; exact (aX (1) c1_1 (aX (2) c2_1 (Int.dvd_zero m)))
 have g2 : m ∣ x 2 - 15 * ((1) * x 1 + (1) * x 2 + (-1) * x 3) := by
   have e : x 2 - 15 * ((1) * x 1 + (1) * x 2 + (-1) * x 3) = (1) * (2 * x 2 - 5 * x 1) + ((1) * (4 * x 4 - 10 * x 1) + ((5) * (3 * x 3 - 4 * x 2) + (0))) := by omega
   rw [e]; exact (aX (1) c1_1 (aX (1) c1_3 (aX (5) c2_1 (Int.dvd_zero m))))
 have g3 : m ∣ x 3 - 20 * ((1) * x 1 + (1) * x 2 + (-1) * x 3) := by
   have e : x 3 - 20 * ((1) * x 1 + (1) * x 2 + (-1) * x 3) = (2) * (4 * x 4 - 10 * x 1) + ((7) * (3 * x 3 - 4 * x 2) + (0)) := by omega
   rw [e]; exact (aX (2) c1_3 (aX (7) c2_1 (Int.dvd_zero m)))
 rcases (show i = 1 ∨ i = 2 ∨ i = 3 ∨ i = 4 ∨ i = 5 by omega) with rfl | rfl | rfl | rfl | rfl
 · exact g1
 · exact g2
 · exact g3
 · rw [s4]; exact g2
 · rw [s5]; exact g1
theorem Ajj {m : Int} (x : Nat → Int) (hs : ∀ i, 1 ≤ i → i < 7 → x i = x (7 - i)) (hc : ∀ a b, 1 ≤ a → 1 ≤ b → a + b < 7 → m ∣ ((aS (a + b) a : Nat) : Int) * x (a + b) - ((aS (7 - a) b : Nat) : Int) * x a) : ∃ w : Int, ∀ i, 1 ≤ i → i < 7 → m ∣ x i - ((dE 7 i : Nat) : Int) * w := by
 have s4 : x 4 = x 3 := hs 4 (by decide) (by decide)
 have s5 : x 5 = x 2 := hs 5 (by decide) (by decide)
 have s6 : x 6 = x 1 := hs 6 (by decide) (by decide)
 have c1_1 : m ∣ 2 * x 2 - 6 * x 1 := hc 1 1 (by decide) (by decide) (by decide)
 have c1_2 : m ∣ 3 * x 3 - 15 * x 1 := hc 1 2 (by decide) (by decide) (by decide)
 have c1_3 : m ∣ 4 * x 4 - 20 * x 1 := hc 1 3 (by decide) (by decide) (by decide)
 have c1_4 : m ∣ 5 * x 5 - 15 * x 1 := hc 1 4 (by decide) (by decide) (by decide)
 have c2_4 : m ∣ 15 * x 6 - 5 * x 2 := hc 2 4 (by decide) (by decide) (by decide)
 refine ⟨(1) * x 1, fun i h1 h2 => ?_⟩
 have g1 : m ∣ x 1 - 1 * ((1) * x 1) := by
   have e : x 1 - 1 * ((1) * x 1) = 0 := by omega
   rw [e]; exact (Int.dvd_zero m)
 have g2 : m ∣ x 2 - 3 * ((1) * x 1) := by
   have e : x 2 - 3 * ((1) * x 1) = (-2) * (2 * x 2 - 6 * x 1) + ((1) * (5 * x 5 - 15 * x 1) + (0)) := by omega
   rw [e]; exact (aX (-2) c1_1 (aX (1) c1_4 (Int.dvd_zero m)))
 have g3 : m ∣ x 3 - 5 * ((1) * x 1) := by
   have e : x 3 - 5 * ((1) * x 1) = (3) * (3 * x 3 - 15 * x 1) + ((-2) * (4 * x 4 - 20 * x 1) + ((1) * (5 * x 5 - 15 * x 1) + ((1) * (15 * x 6 - 5 * x 2) + (0)))) := by omega
   rw [e]; exact (aX (3) c1_2 (aX (-2) c1_3 (aX (1) c1_4 (aX (1) c2_4 (Int.dvd_zero m)))))
 rcases (show i = 1 ∨ i = 2 ∨ i = 3 ∨ i = 4 ∨ i = 5 ∨ i = 6 by omega) with rfl | rfl | rfl | rfl | rfl | rfl
 · exact g1
 · exact g2
 · exact g3
 · rw [s4]; exact g3
 · rw [s5]; exact g2
 · rw [s6]; exact g1
theorem Aqa {m : Int} (x : Nat → Int) (hs : ∀ i, 1 ≤ i → i < 8 → x i = x (8 - i)) (hc : ∀ a b, 1 ≤ a → 1 ≤ b → a + b < 8 → m ∣ ((aS (a + b) a : Nat) : Int) * x (a + b) - ((aS (8 - a) b : Nat) : Int) * x a) : ∃ w : Int, ∀ i, 1 ≤ i → i < 8 → m ∣ x i - ((dE 8 i : Nat) : Int) * w := by
 have s5 : x 5 = x 3 := hs 5 (by decide) (by decide)
 have s6 : x 6 = x 2 := hs 6 (by decide) (by decide)
 have s7 : x 7 = x 1 := hs 7 (by decide) (by decide)
 have c1_1 : m ∣ 2 * x 2 - 7 * x 1 := hc 1 1 (by decide) (by decide) (by decide)
 have c1_2 : m ∣ 3 * x 3 - 21 * x 1 := hc 1 2 (by decide) (by decide) (by decide)
 have c1_4 : m ∣ 5 * x 5 - 35 * x 1 := hc 1 4 (by decide) (by decide) (by decide)
 have c1_5 : m ∣ 6 * x 6 - 21 * x 1 := hc 1 5 (by decide) (by decide) (by decide)
 have c2_1 : m ∣ 3 * x 3 - 6 * x 2 := hc 2 1 (by decide) (by decide) (by decide)
 have c2_2 : m ∣ 6 * x 4 - 15 * x 2 := hc 2 2 (by decide) (by decide) (by decide)
 have c2_3 : m ∣ 10 * x 5 - 20 * x 2 := hc 2 3 (by decide) (by decide) (by decide)
 have c3_1 : m ∣ 4 * x 4 - 5 * x 3 := hc 3 1 (by decide) (by decide) (by decide)
 have c4_2 : m ∣ 15 * x 6 - 6 * x 4 := hc 4 2 (by decide) (by decide) (by decide)
 refine ⟨(2) * x 1 + (1) * x 3 + (-1) * x 4, fun i h1 h2 => ?_⟩
 have g1 : m ∣ x 1 - 4 * ((2) * x 1 + (1) * x 3 + (-1) * x 4) := by
   have e : x 1 - 4 * ((2) * x 1 + (1) * x 3 + (-1) * x 4) = (1) * (2 * x 2 - 7 * x 1) + ((-3) * (3 * x 3 - 6 * x 2) + ((1) * (10 * x 5 - 20 * x 2) + ((1) * (4 * x 4 - 5 * x 3) + (0)))) := by omega
   rw [e]; exact (aX (1) c1_1 (aX (-3) c2_1 (aX (1) c2_3 (aX (1) c3_1 (Int.dvd_zero m)))))
 have g2 : m ∣ x 2 - 14 * ((2) * x 1 + (1) * x 3 + (-1) * x 4) := by
   have e : x 2 - 14 * ((2) * x 1 + (1) * x 3 + (-1) * x 4) = (-1) * (5 * x 5 - 35 * x 1) + ((3) * (6 * x 6 - 21 * x 1) + ((-3) * (3 * x 3 - 6 * x 2) + ((1) * (6 * x 4 - 15 * x 2) + ((1) * (10 * x 5 - 20 * x 2) + ((2) * (4 * x 4 - 5 * x 3) + (0)))))) := by omega
   rw [e]; exact (aX (-1) c1_4 (aX (3) c1_5 (aX (-3) c2_1 (aX (1) c2_2 (aX (1) c2_3 (aX (2) c3_1 (Int.dvd_zero m)))))))
 have g3 : m ∣ x 3 - 28 * ((2) * x 1 + (1) * x 3 + (-1) * x 4) := by
   have e : x 3 - 28 * ((2) * x 1 + (1) * x 3 + (-1) * x 4) = (-1) * (2 * x 2 - 7 * x 1) + ((1) * (3 * x 3 - 21 * x 1) + ((-3) * (5 * x 5 - 35 * x 1) + ((7) * (6 * x 6 - 21 * x 1) + ((6) * (6 * x 4 - 15 * x 2) + ((-1) * (10 * x 5 - 20 * x 2) + ((1) * (4 * x 4 - 5 * x 3) + ((2) * (15 * x 6 - 6 * x 4) + (0)))))))) := by omega
   rw [e]; exact (aX (-1) c1_1 (aX (1) c1_2 (aX (-3) c1_4 (aX (7) c1_5 (aX (6) c2_2 (aX (-1) c2_3 (aX (1) c3_1 (aX (2) c4_2 (Int.dvd_zero m)))))))))
 have g4 : m ∣ x 4 - 35 * ((2) * x 1 + (1) * x 3 + (-1) * x 4) := by
   have e : x 4 - 35 * ((2) * x 1 + (1) * x 3 + (-1) * x 4) = (-4) * (5 * x 5 - 35 * x 1) + ((10) * (6 * x 6 - 21 * x 1) + ((5) * (6 * x 4 - 15 * x 2) + ((3) * (4 * x 4 - 5 * x 3) + ((1) * (15 * x 6 - 6 * x 4) + (0))))) := by omega
   rw [e]; exact (aX (-4) c1_4 (aX (10) c1_5 (aX (5) c2_2 (aX (3) c3_1 (aX (1) c4_2 (Int.dvd_zero m))))))
 rcases (show i = 1 ∨ i = 2 ∨ i = 3 ∨ i = 4 ∨ i = 5 ∨ i = 6 ∨ i = 7 by omega) with rfl | rfl | rfl | rfl | rfl | rfl | rfl
 · exact g1
 · exact g2
 · exact g3
 · exact g4
 · rw [s5]; exact g3
 · rw [s6]; exact g2
 · rw [s7]; exact g1
theorem An5 {m : Int} (x : Nat → Int) (hs : ∀ i, 1 ≤ i → i < 9 → x i = x (9 - i)) (hc : ∀ a b, 1 ≤ a → 1 ≤ b → a + b < 9 → m ∣ ((aS (a + b) a : Nat) : Int) * x (a + b) - ((aS (9 - a) b : Nat) : Int) * x a) : ∃ w : Int, ∀ i, 1 ≤ i → i < 9 → m ∣ x i - ((dE 9 i : Nat) : Int) * w := by
 have s5 : x 5 = x 4 := hs 5 (by decide) (by decide)
 have s6 : x 6 = x 3 := hs 6 (by decide) (by decide)
 have s7 : x 7 = x 2 := hs 7 (by decide) (by decide)
 have s8 : x 8 = x 1 := hs 8 (by decide) (by decide)
 have c1_1 : m ∣ 2 * x 2 - 8 * x 1 := hc 1 1 (by decide) (by decide) (by decide)
 have c1_4 : m ∣ 5 * x 5 - 70 * x 1 := hc 1 4 (by decide) (by decide) (by decide)
 have c1_5 : m ∣ 6 * x 6 - 56 * x 1 := hc 1 5 (by decide) (by decide) (by decide)
 have c2_1 : m ∣ 3 * x 3 - 7 * x 2 := hc 2 1 (by decide) (by decide) (by decide)
 have c2_2 : m ∣ 6 * x 4 - 21 * x 2 := hc 2 2 (by decide) (by decide) (by decide)
 have c3_1 : m ∣ 4 * x 4 - 6 * x 3 := hc 3 1 (by decide) (by decide) (by decide)
 have c3_2 : m ∣ 10 * x 5 - 15 * x 3 := hc 3 2 (by decide) (by decide) (by decide)
 have c4_4 : m ∣ 70 * x 8 - 5 * x 4 := hc 4 4 (by decide) (by decide) (by decide)
 refine ⟨(-1) * x 1 + (-2) * x 2 + (1) * x 3, fun i h1 h2 => ?_⟩
 have g1 : m ∣ x 1 - 3 * ((-1) * x 1 + (-2) * x 2 + (1) * x 3) := by
   have e : x 1 - 3 * ((-1) * x 1 + (-2) * x 2 + (1) * x 3) = (3) * (2 * x 2 - 8 * x 1) + ((-3) * (6 * x 6 - 56 * x 1) + ((-1) * (10 * x 5 - 15 * x 3) + ((-2) * (70 * x 8 - 5 * x 4) + (0)))) := by omega
   rw [e]; exact (aX (3) c1_1 (aX (-3) c1_5 (aX (-1) c3_2 (aX (-2) c4_4 (Int.dvd_zero m)))))
 have g2 : m ∣ x 2 - 12 * ((-1) * x 1 + (-2) * x 2 + (1) * x 3) := by
   have e : x 2 - 12 * ((-1) * x 1 + (-2) * x 2 + (1) * x 3) = (2) * (2 * x 2 - 8 * x 1) + ((-2) * (5 * x 5 - 70 * x 1) + ((2) * (6 * x 6 - 56 * x 1) + ((-1) * (6 * x 4 - 21 * x 2) + ((-1) * (4 * x 4 - 6 * x 3) + ((2) * (10 * x 5 - 15 * x 3) + (0)))))) := by omega
   rw [e]; exact (aX (2) c1_1 (aX (-2) c1_4 (aX (2) c1_5 (aX (-1) c2_2 (aX (-1) c3_1 (aX (2) c3_2 (Int.dvd_zero m)))))))
 have g3 : m ∣ x 3 - 28 * ((-1) * x 1 + (-2) * x 2 + (1) * x 3) := by
   have e : x 3 - 28 * ((-1) * x 1 + (-2) * x 2 + (1) * x 3) = (-4) * (5 * x 5 - 70 * x 1) + ((2) * (6 * x 6 - 56 * x 1) + ((1) * (3 * x 3 - 7 * x 2) + ((-3) * (6 * x 4 - 21 * x 2) + ((2) * (4 * x 4 - 6 * x 3) + ((2) * (10 * x 5 - 15 * x 3) + ((-2) * (70 * x 8 - 5 * x 4) + (0))))))) := by omega
   rw [e]; exact (aX (-4) c1_4 (aX (2) c1_5 (aX (1) c2_1 (aX (-3) c2_2 (aX (2) c3_1 (aX (2) c3_2 (aX (-2) c4_4 (Int.dvd_zero m))))))))
 have g4 : m ∣ x 4 - 42 * ((-1) * x 1 + (-2) * x 2 + (1) * x 3) := by
   have e : x 4 - 42 * ((-1) * x 1 + (-2) * x 2 + (1) * x 3) = (-5) * (5 * x 5 - 70 * x 1) + ((-2) * (6 * x 6 - 56 * x 1) + ((-4) * (6 * x 4 - 21 * x 2) + ((2) * (10 * x 5 - 15 * x 3) + ((-6) * (70 * x 8 - 5 * x 4) + (0))))) := by omega
   rw [e]; exact (aX (-5) c1_4 (aX (-2) c1_5 (aX (-4) c2_2 (aX (2) c3_2 (aX (-6) c4_4 (Int.dvd_zero m))))))
 rcases (show i = 1 ∨ i = 2 ∨ i = 3 ∨ i = 4 ∨ i = 5 ∨ i = 6 ∨ i = 7 ∨ i = 8 by omega) with rfl | rfl | rfl | rfl | rfl | rfl | rfl | rfl
 · exact g1
 · exact g2
 · exact g3
 · exact g4
 · rw [s5]; exact g4
 · rw [s6]; exact g3
 · rw [s7]; exact g2
 · rw [s8]; exact g1
theorem Ak8 {m : Int} (x : Nat → Int) (hs : ∀ i, 1 ≤ i → i < 10 → x i = x (10 - i)) (hc : ∀ a b, 1 ≤ a → 1 ≤ b → a + b < 10 → m ∣ ((aS (a + b) a : Nat) : Int) * x (a + b) - ((aS (10 - a) b : Nat) : Int) * x a) : ∃ w : Int, ∀ i, 1 ≤ i → i < 10 → m ∣ x i - ((dE 10 i : Nat) : Int) * w := by
 have s6 : x 6 = x 4 := hs 6 (by decide) (by decide)
 have s7 : x 7 = x 3 := hs 7 (by decide) (by decide)
 have s8 : x 8 = x 2 := hs 8 (by decide) (by decide)
 have s9 : x 9 = x 1 := hs 9 (by decide) (by decide)
 have c1_1 : m ∣ 2 * x 2 - 9 * x 1 := hc 1 1 (by decide) (by decide) (by decide)
 have c1_3 : m ∣ 4 * x 4 - 84 * x 1 := hc 1 3 (by decide) (by decide) (by decide)
 have c1_5 : m ∣ 6 * x 6 - 126 * x 1 := hc 1 5 (by decide) (by decide) (by decide)
 have c1_6 : m ∣ 7 * x 7 - 84 * x 1 := hc 1 6 (by decide) (by decide) (by decide)
 have c1_7 : m ∣ 8 * x 8 - 36 * x 1 := hc 1 7 (by decide) (by decide) (by decide)
 have c2_1 : m ∣ 3 * x 3 - 8 * x 2 := hc 2 1 (by decide) (by decide) (by decide)
 have c2_2 : m ∣ 6 * x 4 - 28 * x 2 := hc 2 2 (by decide) (by decide) (by decide)
 have c2_3 : m ∣ 10 * x 5 - 56 * x 2 := hc 2 3 (by decide) (by decide) (by decide)
 have c3_2 : m ∣ 10 * x 5 - 21 * x 3 := hc 3 2 (by decide) (by decide) (by decide)
 have c4_1 : m ∣ 5 * x 5 - 6 * x 4 := hc 4 1 (by decide) (by decide) (by decide)
 have c4_4 : m ∣ 70 * x 8 - 15 * x 4 := hc 4 4 (by decide) (by decide) (by decide)
 refine ⟨(1) * x 1 + (-1) * x 2 + (1) * x 3 + (2) * x 4 + (-2) * x 5, fun i h1 h2 => ?_⟩
 have g1 : m ∣ x 1 - 10 * ((1) * x 1 + (-1) * x 2 + (1) * x 3 + (2) * x 4 + (-2) * x 5) := by
   have e : x 1 - 10 * ((1) * x 1 + (-1) * x 2 + (1) * x 3 + (2) * x 4 + (-2) * x 5) = (-1) * (2 * x 2 - 9 * x 1) + ((1) * (4 * x 4 - 84 * x 1) + ((-13) * (6 * x 6 - 126 * x 1) + ((2) * (7 * x 7 - 84 * x 1) + ((39) * (8 * x 8 - 36 * x 1) + ((-1) * (3 * x 3 - 8 * x 2) + ((-1) * (6 * x 4 - 28 * x 2) + ((1) * (10 * x 5 - 56 * x 2) + ((1) * (10 * x 5 - 21 * x 3) + ((-4) * (70 * x 8 - 15 * x 4) + (0)))))))))) := by omega
   rw [e]; exact (aX (-1) c1_1 (aX (1) c1_3 (aX (-13) c1_5 (aX (2) c1_6 (aX (39) c1_7 (aX (-1) c2_1 (aX (-1) c2_2 (aX (1) c2_3 (aX (1) c3_2 (aX (-4) c4_4 (Int.dvd_zero m)))))))))))
 have g2 : m ∣ x 2 - 45 * ((1) * x 1 + (-1) * x 2 + (1) * x 3 + (2) * x 4 + (-2) * x 5) := by
   have e : x 2 - 45 * ((1) * x 1 + (-1) * x 2 + (1) * x 3 + (2) * x 4 + (-2) * x 5) = (-1) * (2 * x 2 - 9 * x 1) + ((15) * (4 * x 4 - 84 * x 1) + ((-67) * (6 * x 6 - 126 * x 1) + ((201) * (8 * x 8 - 36 * x 1) + ((-1) * (3 * x 3 - 8 * x 2) + ((-1) * (6 * x 4 - 28 * x 2) + ((1) * (10 * x 5 - 56 * x 2) + ((2) * (10 * x 5 - 21 * x 3) + ((12) * (5 * x 5 - 6 * x 4) + ((-22) * (70 * x 8 - 15 * x 4) + (0)))))))))) := by omega
   rw [e]; exact (aX (-1) c1_1 (aX (15) c1_3 (aX (-67) c1_5 (aX (201) c1_7 (aX (-1) c2_1 (aX (-1) c2_2 (aX (1) c2_3 (aX (2) c3_2 (aX (12) c4_1 (aX (-22) c4_4 (Int.dvd_zero m)))))))))))
 have g3 : m ∣ x 3 - 120 * ((1) * x 1 + (-1) * x 2 + (1) * x 3 + (2) * x 4 + (-2) * x 5) := by
   have e : x 3 - 120 * ((1) * x 1 + (-1) * x 2 + (1) * x 3 + (2) * x 4 + (-2) * x 5) = (2) * (2 * x 2 - 9 * x 1) + ((39) * (4 * x 4 - 84 * x 1) + ((-179) * (6 * x 6 - 126 * x 1) + ((1) * (7 * x 7 - 84 * x 1) + ((536) * (8 * x 8 - 36 * x 1) + ((-1) * (6 * x 4 - 28 * x 2) + ((6) * (10 * x 5 - 21 * x 3) + ((36) * (5 * x 5 - 6 * x 4) + ((-60) * (70 * x 8 - 15 * x 4) + (0))))))))) := by omega
   rw [e]; exact (aX (2) c1_1 (aX (39) c1_3 (aX (-179) c1_5 (aX (1) c1_6 (aX (536) c1_7 (aX (-1) c2_2 (aX (6) c3_2 (aX (36) c4_1 (aX (-60) c4_4 (Int.dvd_zero m))))))))))
 have g4 : m ∣ x 4 - 210 * ((1) * x 1 + (-1) * x 2 + (1) * x 3 + (2) * x 4 + (-2) * x 5) := by
   have e : x 4 - 210 * ((1) * x 1 + (-1) * x 2 + (1) * x 3 + (2) * x 4 + (-2) * x 5) = (2) * (2 * x 2 - 9 * x 1) + ((70) * (4 * x 4 - 84 * x 1) + ((-312) * (6 * x 6 - 126 * x 1) + ((934) * (8 * x 8 - 36 * x 1) + ((-3) * (6 * x 4 - 28 * x 2) + ((10) * (10 * x 5 - 21 * x 3) + ((64) * (5 * x 5 - 6 * x 4) + ((-105) * (70 * x 8 - 15 * x 4) + (0)))))))) := by omega
   rw [e]; exact (aX (2) c1_1 (aX (70) c1_3 (aX (-312) c1_5 (aX (934) c1_7 (aX (-3) c2_2 (aX (10) c3_2 (aX (64) c4_1 (aX (-105) c4_4 (Int.dvd_zero m)))))))))
 have g5 : m ∣ x 5 - 252 * ((1) * x 1 + (-1) * x 2 + (1) * x 3 + (2) * x 4 + (-2) * x 5) := by
   have e : x 5 - 252 * ((1) * x 1 + (-1) * x 2 + (1) * x 3 + (2) * x 4 + (-2) * x 5) = (84) * (4 * x 4 - 84 * x 1) + ((-374) * (6 * x 6 - 126 * x 1) + ((1120) * (8 * x 8 - 36 * x 1) + ((-4) * (6 * x 4 - 28 * x 2) + ((12) * (10 * x 5 - 21 * x 3) + ((77) * (5 * x 5 - 6 * x 4) + ((-126) * (70 * x 8 - 15 * x 4) + (0))))))) := by omega
   rw [e]; exact (aX (84) c1_3 (aX (-374) c1_5 (aX (1120) c1_7 (aX (-4) c2_2 (aX (12) c3_2 (aX (77) c4_1 (aX (-126) c4_4 (Int.dvd_zero m))))))))
 rcases (show i = 1 ∨ i = 2 ∨ i = 3 ∨ i = 4 ∨ i = 5 ∨ i = 6 ∨ i = 7 ∨ i = 8 ∨ i = 9 by omega) with rfl | rfl | rfl | rfl | rfl | rfl | rfl | rfl | rfl
 · exact g1
 · exact g2
 · exact g3
 · exact g4
 · exact g5
 · rw [s6]; exact g4
 · rw [s7]; exact g3
 · rw [s8]; exact g2
 · rw [s9]; exact g1
theorem Auv {m : Int} {n : Nat} (hn : 2 ≤ n ∧ n ≤ 10) (x : Nat → Int) (hs : ∀ i, 1 ≤ i → i < n → x i = x (n - i)) (hc : ∀ a b, 1 ≤ a → 1 ≤ b → a + b < n → m ∣ ((aS (a + b) a : Nat) : Int) * x (a + b) - ((aS (n - a) b : Nat) : Int) * x a) : ∃ w : Int, ∀ i, 1 ≤ i → i < n → m ∣ x i - ((dE n i : Nat) : Int) * w := by
 rcases (show n = 2 ∨ n = 3 ∨ n = 4 ∨ n = 5 ∨ n = 6 ∨ n = 7 ∨ n = 8 ∨ n = 9 ∨ n = 10 by omega) with rfl | rfl | rfl | rfl | rfl | rfl | rfl | rfl | rfl
 · exact Aqg x hs hc
 · exact Aj2 x hs hc
 · exact Aoj x hs hc
 · exact Ask x hs hc
 · exact Aua x hs hc
 · exact Ajj x hs hc
 · exact Aqa x hs hc
 · exact An5 x hs hc
 · exact Ak8 x hs hc
end Go.Fg
