/- The sectors of the circle: each vector lies in one (plain law). -/
import Derived.Test.YtkapllakofndlaaDoorTabA
import Derived.Test.YtkapllakofndlaaDoorSums
namespace Go.Proofs.YtkapllakofndlaaDoor
namespace Ang
def least (n : Nat) : Bool := decide (-16384 ≤ S n ∧ S n ≤ 16384) && (Nat.beq n 0 || Nat.ble 2048 n || decide (25 ≤ S n))
def leastN : Nat → Bool
  | 0 => true
  | k + 1 => least k && leastN k
set_option maxRecDepth 1000000 in
theorem least_all : leastN 4096 = true := by decide +kernel
theorem leastN_of : ∀ {k : Nat}, leastN k = true → ∀ n, n < k → least n = true
  | 0, _, n, h => by omega
  | k + 1, h, n, hn => by
    have h' : (least k && leastN k) = true := h
    rw [Bool.and_eq_true] at h'
    rcases Nat.lt_or_ge n k with hl | hl
    · exact leastN_of h'.2 n hl
    · rw [show n = k from by omega]; exact h'.1
theorem sn_bd (h : Int) : -16384 ≤ sn h ∧ sn h ≤ 16384 := by
  have c := leastN_of least_all (h % 4096).toNat (by omega)
  unfold least at c
  rw [Bool.and_eq_true, decide_eq_true_eq] at c
  exact c.1
theorem sn_pos {k : Int} (h1 : 1 ≤ k) (h2 : k ≤ 2047) : 25 ≤ sn k := by
  have c := leastN_of least_all (k % 4096).toNat (by omega)
  unfold least at c
  rw [Bool.and_eq_true] at c
  have c2 := c.2
  rw [show Nat.beq (k % 4096).toNat 0 = false from by rw [← Bool.not_eq_true, Nat.beq_eq]; omega, show Nat.ble 2048 (k % 4096).toNat = false from by rw [← Bool.not_eq_true, Nat.ble_eq]; omega] at c2
  rw [Bool.false_or, Bool.false_or, decide_eq_true_eq] at c2
  exact c2
theorem add_sn (g h : Int) : -31400 ≤ sn g * sn (h + 1024) + sn (g + 1024) * sn h - 16384 * sn (g + h) ∧ sn g * sn (h + 1024) + sn (g + 1024) * sn h - 16384 * sn (g + h) ≤ 31400 := by
  have := add_tab (g % 4096).toNat (h % 4096).toNat (by omega) (by omega)
  unfold sn
  rw [show ((h + 1024) % 4096).toNat = ((h % 4096).toNat + 1024) % 4096 from by omega, show ((g + 1024) % 4096).toNat = ((g % 4096).toNat + 1024) % 4096 from by omega, show ((g + h) % 4096).toNat = ((g % 4096).toNat + (h % 4096).toNat) % 4096 from by omega]
  exact this
/-- The cross product of two unit vectors. -/
def cu (h k : Int) : Int := sn (h + 1024) * sn k - sn h * sn (k + 1024)
theorem sn_c (h : Int) : sn (-h + 1024) = sn (h + 1024) := by
  rw [show -h + 1024 = 2048 - (h + 1024) from by omega, sn_flip]
theorem cu_near (h k : Int) : -31400 ≤ cu h (h + k) - 16384 * sn k ∧ cu h (h + k) - 16384 * sn k ≤ 31400 := by
  have a := add_sn (h + k) (-h)
  rw [sn_c, sn_neg, show h + k + -h = k from by omega] at a
  unfold cu
  have e : sn (h + k) * sn (h + 1024) + sn (h + k + 1024) * -sn h = sn (h + 1024) * sn (h + k) - sn h * sn (h + k + 1024) := by grind
  rw [e] at a
  exact a
theorem cu_pos {k : Int} (h : Int) (h1 : 1 ≤ k) (h2 : k ≤ 2047) : 0 < cu h (h + k) := by
  have a := cu_near h k
  have b := sn_pos h1 h2
  omega
theorem sn_quart : sn (1 + 1024) = 16384 := by decide +kernel
/-- Two neighbouring unit vectors point alike. -/
theorem du_pos (h : Int) : 0 < sn h * sn (h + 1) + sn (h + 1024) * sn (h + 1 + 1024) := by
  have a := add_sn (h + 1 + 1024) (-h)
  rw [sn_c, sn_neg, show h + 1 + 1024 + -h = 1 + 1024 from by omega, sn_quart, show h + 1 + 1024 + 1024 = h + 1 + 2048 from by omega, sn_half] at a
  have e : sn (h + 1 + 1024) * sn (h + 1024) + -sn (h + 1) * -sn h = sn h * sn (h + 1) + sn (h + 1024) * sn (h + 1 + 1024) := by grind
  rw [e] at a
  omega
theorem uu_pos (h : Int) : 0 < sn h * sn h + sn (h + 1024) * sn (h + 1024) := by
  have a := add_sn (h + 1024) (-h)
  rw [sn_c, sn_neg, show h + 1024 + -h = 0 + 1024 from by omega, show h + 1024 + 1024 = h + 2048 from by omega, sn_half] at a
  have e : sn (h + 1024) * sn (h + 1024) + -sn h * -sn h = sn h * sn h + sn (h + 1024) * sn (h + 1024) := by grind
  rw [e, show sn (0 + 1024) = 16384 from by decide +kernel] at a
  omega
/-- The cross product of a unit vector and a vector. -/
def F (x y h : Int) : Int := sn (h + 1024) * x - sn h * y
theorem F_half (x y h : Int) : F x y (h + 2048) = - F x y h := by
  unfold F
  rw [show h + 2048 + 1024 = h + 1024 + 2048 from by omega, sn_half, sn_half]; grind
theorem F_mod {x y g h : Int} (e : g % 4096 = h % 4096) : F x y g = F x y h := by
  unfold F
  rw [sn_mod e, sn_mod (show (g + 1024) % 4096 = (h + 1024) % 4096 by omega)]
theorem F_three (x y p q r : Int) : F x y r * cu p q = F x y q * cu p r - F x y p * cu q r := by
  unfold F cu; grind
/-- The vector lies from h on, ahead of h + 1. -/
def Sec (x y h : Int) : Prop := 0 ≤ F x y h ∧ F x y (h + 1) < 0
theorem sec_mod {x y g h : Int} (e : g % 4096 = h % 4096) : Sec x y g ↔ Sec x y h := by
  unfold Sec
  rw [F_mod e, F_mod (show (g + 1) % 4096 = (h + 1) % 4096 by omega)]
theorem sec_neg {x y h : Int} (s : Sec x y h) {k : Int} (h1 : 1 ≤ k) (h2 : k ≤ 2047) : F x y (h + k) < 0 := by
  rcases (show k = 1 ∨ 2 ≤ k by omega) with rfl | hk
  · exact s.2
  · have e := F_three x y h (h + 1) (h + k)
    have c1 := cu_pos h (k := 1) (by omega) (by omega)
    have c2 := cu_pos h h1 h2
    have c3 := cu_pos (h + 1) (k := k - 1) (by omega) (by omega)
    rw [show h + 1 + (k - 1) = h + k from by omega] at c3
    have n1 : F x y (h + 1) * cu h (h + k) < 0 := Int.mul_neg_of_neg_of_pos s.2 c2
    have n2 : 0 ≤ F x y h * cu (h + 1) (h + k) := Int.mul_nonneg s.1 (by omega)
    rcases (show F x y (h + k) < 0 ∨ 0 ≤ F x y (h + k) by omega) with q | q
    · exact q
    · have := Int.mul_nonneg q (show 0 ≤ cu h (h + 1) by omega); omega
theorem sec_one {x y g h : Int} (s : Sec x y g) (t : Sec x y h) : g % 4096 = h % 4096 := by
  obtain ⟨k, hk⟩ : ∃ k, k = (h - g) % 4096 := ⟨_, rfl⟩
  have hb : 0 ≤ k ∧ k < 4096 := by omega
  have t' : Sec x y (g + k) := (sec_mod (show (g + k) % 4096 = h % 4096 by omega)).2 t
  rcases (show k = 0 ∨ (1 ≤ k ∧ k ≤ 2047) ∨ k = 2048 ∨ (2049 ≤ k ∧ k ≤ 4094) ∨ k = 4095 by omega) with e | ⟨e1, e2⟩ | e | ⟨e1, e2⟩ | e
  · omega
  · have := sec_neg s e1 e2; have := t'.1; omega
  · subst e
    have h1 := t'.2
    rw [show g + 2048 + 1 = g + 1 + 2048 from by omega, F_half] at h1
    have := s.2; omega
  · have h1 := t'.2
    have h2 := sec_neg s (k := k + 1 - 2048) (by omega) (by omega)
    rw [show g + k + 1 = g + (k + 1 - 2048) + 2048 from by omega, F_half] at h1
    omega
  · subst e
    have h1 := t'.2
    rw [F_mod (show (g + 4095 + 1) % 4096 = g % 4096 by omega)] at h1
    have := s.1; omega
theorem sec_some {x y : Int} (h : ¬ (x = 0 ∧ y = 0)) : ∃ g, 0 ≤ g ∧ g < 4096 ∧ Sec x y g := by
  by_cases hs : ∃ g, Sec x y g
  · obtain ⟨g, hg⟩ := hs
    exact ⟨g % 4096, by omega, by omega, (sec_mod (by omega)).1 hg⟩
  · exfalso
    have step : ∀ g, 0 ≤ F x y g → 0 ≤ F x y (g + 1) := fun g h1 => by
      rcases (show 0 ≤ F x y (g + 1) ∨ F x y (g + 1) < 0 by omega) with h2 | h2
      · exact h2
      · exact absurd ⟨g, h1, h2⟩ hs
    have run : ∀ (n : Nat) (g : Int), 0 ≤ F x y g → 0 ≤ F x y (g + n) := by
      intro n
      induction n with
      | zero => intro g h; rw [show g + ((0 : Nat) : Int) = g from by omega]; exact h
      | succ n ih => intro g h; have := step _ (ih g h); rw [show g + ((n + 1 : Nat) : Int) = g + n + 1 from by omega]; exact this
    obtain ⟨g0, hg0⟩ : ∃ g0, 0 ≤ F x y g0 := by
      rcases (show 0 ≤ F x y 0 ∨ F x y 0 < 0 by omega) with h | h
      · exact ⟨0, h⟩
      · exact ⟨0 + 2048, by rw [F_half]; omega⟩
    have all : ∀ g : Int, 0 ≤ F x y g := fun g => by
      have := run ((g - g0) % 4096).toNat g0 hg0
      rw [F_mod (show (g0 + ((((g - g0) % 4096).toNat : Nat) : Int)) % 4096 = g % 4096 by omega)] at this
      exact this
    have zero : ∀ g : Int, F x y g = 0 := fun g => by
      have h1 := all g; have h2 := all (g + 2048); rw [F_half] at h2; omega
    have z0 := zero 0
    have z1 := zero 1024
    unfold F at z0 z1
    rw [show sn (0 + 1024) = 16384 from by decide +kernel, show sn 0 = 0 from by decide +kernel] at z0
    rw [show sn (1024 + 1024) = 0 from by decide +kernel, show sn 1024 = 16384 from by decide +kernel] at z1
    omega
/-- Within its sector the vector points as the unit vector does. -/
theorem sec_dot {x y h : Int} (s : Sec x y h) : 0 < sn h * x + sn (h + 1024) * y := by
  have c := cu_pos h (k := 1) (by omega) (by omega)
  have e : (sn h * x + sn (h + 1024) * y) * cu h (h + 1) = -F x y (h + 1) * (sn h * sn h + sn (h + 1024) * sn (h + 1024)) + F x y h * (sn h * sn (h + 1) + sn (h + 1024) * sn (h + 1 + 1024)) := by
    unfold F cu; grind
  have p1 : 0 < -F x y (h + 1) * (sn h * sn h + sn (h + 1024) * sn (h + 1024)) := Int.mul_pos (by have := s.2; omega) (uu_pos h)
  have p2 : 0 ≤ F x y h * (sn h * sn (h + 1) + sn (h + 1024) * sn (h + 1 + 1024)) := Int.mul_nonneg s.1 (by have := du_pos h; omega)
  rcases (show 0 < sn h * x + sn (h + 1024) * y ∨ sn h * x + sn (h + 1024) * y ≤ 0 by omega) with q | q
  · exact q
  · have := Int.mul_le_mul_of_nonneg_right q (show 0 ≤ cu h (h + 1) by omega)
    rw [Int.zero_mul] at this
    omega
/-- What angle.Of says of a vector. -/
def OfV (x y r : Int) : Prop := ∃ h, 0 ≤ h ∧ h < 4096 ∧ Sec x y h ∧ r = if F x y h ≤ -F x y (h + 1) then h else (h + 1) % 4096
theorem ofv_some {x y : Int} (h : ¬ (x = 0 ∧ y = 0)) : ∃ r, OfV x y r := by
  obtain ⟨g, h1, h2, h3⟩ := sec_some h
  exact ⟨_, g, h1, h2, h3, rfl⟩
theorem ofv_one {x y r r' : Int} (h : OfV x y r) (g : OfV x y r') : r = r' := by
  obtain ⟨a, a1, a2, a3, a4⟩ := h
  obtain ⟨b, b1, b2, b3, b4⟩ := g
  have := sec_one a3 b3
  have e : a = b := by omega
  subst e
  rw [a4, b4]
/-- Every angle is met. -/
theorem meet (g h0 : Int) (h1 : 0 ≤ h0) (h2 : h0 < 4096) : ∃ k : Nat, k < 4096 ∧ (if k % 2 = 1 then (g - k) % 4096 else (g + k) % 4096) = h0 := by
  obtain ⟨d, hd⟩ : ∃ d, d = (h0 - g) % 4096 := ⟨_, rfl⟩
  rcases (show d % 2 = 0 ∨ d % 2 = 1 by omega) with e | e
  · exact ⟨d.toNat, by omega, by rw [if_neg (by omega)]; omega⟩
  · exact ⟨(4096 - d).toNat, by omega, by rw [if_pos (by omega)]; omega⟩
end Ang
end Go.Proofs.YtkapllakofndlaaDoor
