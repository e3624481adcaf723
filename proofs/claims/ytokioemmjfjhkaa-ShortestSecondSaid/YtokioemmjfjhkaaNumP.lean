/- Plain facts on integers: division rounded down, greatest common divisors. No program. -/
import Derived.WalkKit
namespace Go.Proofs.Ytokioemmjfjhkaa
open Go.RowKit
namespace Num
/-- The quotient, rounded down. -/
def fd (a b : Int) : Int := if 0 < b then a / b else (-a) / (-b)
theorem fd_pos {a b : Int} (h : 0 < b) : fd a b = a / b := if_pos h
theorem fd_neg {a b : Int} (h : b < 0) : fd a b = (-a) / (-b) := if_neg (by omega)
theorem ediv_unique {a b q : Int} (hb : 0 < b) (h1 : b * q ≤ a) (h2 : a < b * q + b) : a / b = q := by
  have e1 : q ≤ a / b := (Int.le_ediv_iff_mul_le hb).2 (by rw [Int.mul_comm]; exact h1)
  have e2 : a / b < q + 1 := (Int.ediv_lt_iff_lt_mul hb).2 (by rw [Int.add_mul, Int.one_mul, Int.mul_comm]; exact h2)
  omega
theorem fd_spec_pos {a b : Int} (h : 0 < b) : b * fd a b ≤ a ∧ a < b * fd a b + b := by
  rw [fd_pos h]
  have h1 := Int.mul_ediv_add_emod a b
  have h2 := Int.emod_nonneg a (by omega : b ≠ 0)
  have h3 := Int.emod_lt_of_pos a h
  generalize b * (a / b) = t at *
  omega
theorem fd_spec_neg {a b : Int} (h : b < 0) : a ≤ b * fd a b ∧ b * fd a b + b < a := by
  rw [fd_neg h]
  have h1 := Int.mul_ediv_add_emod (-a) (-b)
  have h2 := Int.emod_nonneg (-a) (by omega : -b ≠ 0)
  have h3 := Int.emod_lt_of_pos (-a) (by omega : 0 < -b)
  have e : b * (-a / -b) = -(-b * (-a / -b)) := by rw [Int.neg_mul]; omega
  rw [e]
  generalize -b * (-a / -b) = t at *
  omega
theorem fd_eq_pos {a b q : Int} (hb : 0 < b) (h1 : b * q ≤ a) (h2 : a < b * q + b) : fd a b = q := by
  rw [fd_pos hb]; exact ediv_unique hb h1 h2
theorem fd_eq_neg {a b q : Int} (hb : b < 0) (h1 : a ≤ b * q) (h2 : b * q + b < a) : fd a b = q := by
  rw [fd_neg hb]
  refine ediv_unique (by omega) ?_ ?_
  · rw [Int.neg_mul]; omega
  · rw [Int.neg_mul]; omega
/-- Truncated division, in facts that omega reads. -/
theorem tdiv_facts (a b : Int) (_hb : b ≠ 0) : b * a.tdiv b + a.tmod b = a ∧ (0 ≤ a → 0 ≤ a.tmod b) ∧ (a ≤ 0 → a.tmod b ≤ 0) ∧ (0 < b → a.tmod b < b ∧ -b < a.tmod b) ∧ (b < 0 → a.tmod b < -b ∧ b < a.tmod b) := by
  refine ⟨Int.mul_tdiv_add_tmod a b, fun h => Int.tmod_nonneg _ h, fun h => ?_, fun h => ?_, fun h => ?_⟩
  · have h1 := Int.tmod_nonneg b (show 0 ≤ -a by omega)
    rw [Int.neg_tmod] at h1
    omega
  · exact ⟨Int.tmod_lt_of_pos a h, by
      have := Int.tmod_lt_of_pos (-a) h
      rw [Int.neg_tmod] at this
      omega⟩
  · have h0 : 0 < -b := by omega
    have e : ∀ x : Int, x.tmod b = x.tmod (-b) := fun x => by rw [Int.tmod_neg]
    rw [e]
    exact ⟨Int.tmod_lt_of_pos a h0, by
      have := Int.tmod_lt_of_pos (-a) h0
      rw [Int.neg_tmod] at this
      omega⟩
/-- The quotient of the code, before its correction, is in range. -/
theorem tdiv_bd {a b : Int} (ha : -9223372036854775808 ≤ a ∧ a ≤ 9223372036854775807) (hb : b ≠ 0) (hx : ¬ (a = -9223372036854775808 ∧ b = -1)) :
    -9223372036854775808 ≤ a.tdiv b ∧ a.tdiv b ≤ 9223372036854775807 := by
  have h1 : (a.tdiv b).natAbs ≤ a.natAbs := by rw [Int.natAbs_tdiv]; exact Nat.div_le_self _ _
  refine ⟨by omega, ?_⟩
  by_cases h2 : a.tdiv b = 9223372036854775808
  · exfalso
    have h3 : a = -9223372036854775808 := by omega
    subst h3
    have h4 : b.natAbs = 1 := by
      have h5 := Int.natAbs_tdiv (-9223372036854775808) b
      rw [h2] at h5
      have h6 : (9223372036854775808 : Nat) = 9223372036854775808 / b.natAbs := h5
      by_cases h7 : b.natAbs = 0
      · omega
      · by_cases h8 : b.natAbs = 1
        · exact h8
        · have : 9223372036854775808 / b.natAbs < 9223372036854775808 := Nat.div_lt_self (by omega) (by omega)
          omega
    have h5 : b = 1 ∨ b = -1 := by omega
    rcases h5 with rfl | rfl
    · rw [Int.tdiv_one] at h2; omega
    · exact hx ⟨rfl, rfl⟩
  · omega
/-- DivDown's quotient and error. -/
def dd (a b : Int) : Int := if b = 0 then 0 else if a = -9223372036854775808 ∧ b = -1 then 0 else fd a b
def dde (a b : Int) : Int := if b = 0 then 10 else if a = -9223372036854775808 ∧ b = -1 then 2 else 0
theorem dd_ok {a b : Int} (h0 : b ≠ 0) (h1 : ¬ (a = -9223372036854775808 ∧ b = -1)) : dd a b = fd a b ∧ dde a b = 0 := by
  unfold dd dde; rw [if_neg h0, if_neg h1, if_neg h0, if_neg h1]; exact ⟨rfl, rfl⟩
theorem dd_zero {a b : Int} (h0 : b = 0) : dd a b = 0 ∧ dde a b = 10 := by
  unfold dd dde; rw [if_pos h0, if_pos h0]; exact ⟨rfl, rfl⟩
theorem dd_min {a b : Int} (h0 : a = -9223372036854775808) (h1 : b = -1) : dd a b = 0 ∧ dde a b = 2 := by
  unfold dd dde; rw [if_neg (by omega), if_pos ⟨h0, h1⟩, if_neg (by omega), if_pos ⟨h0, h1⟩]; exact ⟨rfl, rfl⟩
/-- No correction: the remainder is 0, or both signs are the same. -/
theorem fd_of_tdiv {a b : Int} (hb : b ≠ 0) (h : a.tmod b = 0 ∨ (a < 0 ↔ b < 0)) : fd a b = a.tdiv b := by
  obtain ⟨h1, h2, h3, h4, h5⟩ := tdiv_facts a b hb
  rcases Int.lt_or_gt_of_ne hb with hn | hp
  · refine fd_eq_neg hn ?_ ?_ <;> (generalize b * a.tdiv b = t at *; generalize a.tmod b = r at *; omega)
  · refine fd_eq_pos hp ?_ ?_ <;> (generalize b * a.tdiv b = t at *; generalize a.tmod b = r at *; omega)
theorem fd_of_tdiv_sub {a b : Int} (hb : b ≠ 0) (h : a.tmod b ≠ 0) (hs : ¬ (a < 0 ↔ b < 0)) : fd a b = a.tdiv b - 1 := by
  obtain ⟨h1, h2, h3, h4, h5⟩ := tdiv_facts a b hb
  rcases Int.lt_or_gt_of_ne hb with hn | hp
  · refine fd_eq_neg hn ?_ ?_ <;> (rw [Int.mul_sub, Int.mul_one]; generalize b * a.tdiv b = t at *; generalize a.tmod b = r at *; omega)
  · refine fd_eq_pos hp ?_ ?_ <;> (rw [Int.mul_sub, Int.mul_one]; generalize b * a.tdiv b = t at *; generalize a.tmod b = r at *; omega)
theorem fd_bd {a b : Int} (ha : -9223372036854775808 ≤ a ∧ a ≤ 9223372036854775807) (hb : b ≠ 0) (hx : ¬ (a = -9223372036854775808 ∧ b = -1)) :
    -9223372036854775808 ≤ fd a b ∧ fd a b ≤ 9223372036854775807 := by
  have h0 := tdiv_bd ha hb hx
  by_cases h : a.tmod b = 0 ∨ (a < 0 ↔ b < 0)
  · rw [fd_of_tdiv hb h]; exact h0
  · rw [fd_of_tdiv_sub hb (fun e => h (Or.inl e)) (fun e => h (Or.inr e))]
    have h1 : a.tdiv b ≠ -9223372036854775808 := by
      intro e
      have h2 := Int.natAbs_tdiv a b
      rw [e] at h2
      have h3 : (9223372036854775808 : Nat) = a.natAbs / b.natAbs := h2
      have h4 : a.natAbs / b.natAbs ≤ a.natAbs := Nat.div_le_self _ _
      have h5 : a = -9223372036854775808 := by omega
      subst h5
      have h6 : b.natAbs = 1 := by
        by_cases h7 : b.natAbs = 0
        · omega
        · by_cases h8 : b.natAbs = 1
          · exact h8
          · have h3' : (9223372036854775808 : Nat) = 9223372036854775808 / b.natAbs := h3
            have : 9223372036854775808 / b.natAbs < 9223372036854775808 := Nat.div_lt_self (by omega) (by omega)
            omega
      have h7 : b = 1 ∨ b = -1 := by omega
      rcases h7 with rfl | rfl
      · exact h (Or.inl (by rw [Int.tmod_one]))
      · exact hx ⟨rfl, rfl⟩
    omega
theorem dd_bd {a b : Int} (ha : -9223372036854775808 ≤ a ∧ a ≤ 9223372036854775807) : -9223372036854775808 ≤ dd a b ∧ dd a b ≤ 9223372036854775807 := by
  by_cases h0 : b = 0
  · rw [(dd_zero h0).1]; omega
  · by_cases h1 : a = -9223372036854775808 ∧ b = -1
    · rw [(dd_min h1.1 h1.2).1]; omega
    · rw [(dd_ok h0 h1).1]; exact fd_bd ha h0 h1
/-- DivUp's quotient. -/
def du (a b : Int) : Int := if b = 0 then 0 else if a = -9223372036854775808 ∧ b = -1 then 0 else if a.tmod b = 0 then fd a b else fd a b + 1
theorem du_ok {a b : Int} (h0 : b ≠ 0) (h1 : ¬ (a = -9223372036854775808 ∧ b = -1)) : du a b = if a.tmod b = 0 then fd a b else fd a b + 1 := by
  unfold du; rw [if_neg h0, if_neg h1]
theorem du_bad {a b : Int} (h : dde a b ≠ 0) : du a b = 0 := by
  unfold du dde at *
  split
  · rfl
  · rename_i h0
    rw [if_neg h0] at h
    split
    · rfl
    · rename_i h1; rw [if_neg h1] at h; exact absurd rfl h
theorem dde_cases (a b : Int) : dde a b = 0 ∧ b ≠ 0 ∧ ¬ (a = -9223372036854775808 ∧ b = -1) ∨ dde a b ≠ 0 ∧ (b = 0 ∨ a = -9223372036854775808 ∧ b = -1) := by
  unfold dde
  by_cases h0 : b = 0
  · rw [if_pos h0]; exact Or.inr ⟨by omega, Or.inl h0⟩
  · rw [if_neg h0]
    by_cases h1 : a = -9223372036854775808 ∧ b = -1
    · rw [if_pos h1]; exact Or.inr ⟨by omega, Or.inr h1⟩
    · rw [if_neg h1]; exact Or.inl ⟨rfl, h0, h1⟩
/-- Where there is a remainder, the quotient is not the greatest int. -/
theorem fd_lt_max {a b : Int} (ha : -9223372036854775808 ≤ a ∧ a ≤ 9223372036854775807) (hb : b ≠ 0) (h : a.tmod b ≠ 0) : fd a b < 9223372036854775807 := by
  have h0 := tdiv_bd ha hb (fun e => h (by rw [e.2, Int.tmod_neg, Int.tmod_one]))
  by_cases hs : a < 0 ↔ b < 0
  · rw [fd_of_tdiv hb (Or.inr hs)]
    have h1 : a.tdiv b ≠ 9223372036854775807 := by
      intro e
      have h2 := Int.natAbs_tdiv a b
      rw [e] at h2
      have h3 : (9223372036854775807 : Nat) = a.natAbs / b.natAbs := h2
      have h6 : b.natAbs = 1 := by
        by_cases h7 : b.natAbs = 0
        · omega
        · by_cases h8 : b.natAbs = 1
          · exact h8
          · have h9 : a.natAbs / b.natAbs ≤ a.natAbs / 2 := Nat.div_le_div_left (by omega) (by omega)
            omega
      have h7 : b = 1 ∨ b = -1 := by omega
      rcases h7 with rfl | rfl
      · exact h (by rw [Int.tmod_one])
      · exact h (by rw [Int.tmod_neg, Int.tmod_one])
    omega
  · rw [fd_of_tdiv_sub hb h hs]; omega
theorem du_bd {a b : Int} (ha : -9223372036854775808 ≤ a ∧ a ≤ 9223372036854775807) : -9223372036854775808 ≤ du a b ∧ du a b ≤ 9223372036854775807 := by
  rcases dde_cases a b with ⟨_, h0, h1⟩ | ⟨h, _⟩
  · rw [du_ok h0 h1]
    have h2 := fd_bd ha h0 h1
    by_cases h3 : a.tmod b = 0
    · rw [if_pos h3]; exact h2
    · rw [if_neg h3]
      have := fd_lt_max ha h0 h3
      omega
  · rw [du_bad h]; omega
/- The ways through DivDown. -/
section
variable {a b : Int} (ha : -9223372036854775808 ≤ a ∧ a ≤ 9223372036854775807) (h0 : b ≠ 0) (h1 : ¬ (a = -9223372036854775808 ∧ b = -1))
include ha h0 h1
theorem way_exact (h : a.tmod b = 0) : wrap64 (a.tdiv b) = dd a b ∧ 0 = dde a b := by
  have := tdiv_bd ha h0 h1
  rw [IntWalk.wrap64_in _ (by omega), (dd_ok h0 h1).1, (dd_ok h0 h1).2, fd_of_tdiv h0 (Or.inl h)]; exact ⟨rfl, rfl⟩
theorem way_less (h : ¬ a.tmod b = 0) (hs : (!decide (a < 0) == decide (b < 0)) = true) : wrap64 (wrap64 (a.tdiv b) - 1) = dd a b ∧ 0 = dde a b := by
  have := tdiv_bd ha h0 h1
  have h2 := fd_bd ha h0 h1
  have e : fd a b = a.tdiv b - 1 := fd_of_tdiv_sub h0 h (by
    intro e
    by_cases hn : a < 0 <;> simp [hn, e.symm] at hs)
  rw [IntWalk.wrap64_in (a.tdiv b) (by omega), IntWalk.wrap64_in _ (by omega), (dd_ok h0 h1).1, (dd_ok h0 h1).2, e]; exact ⟨rfl, rfl⟩
theorem way_same (_h : ¬ a.tmod b = 0) (hs : (a.tmod b != 0) = false ∨ (!decide (a < 0) == decide (b < 0)) = false) : wrap64 (a.tdiv b) = dd a b ∧ 0 = dde a b := by
  have := tdiv_bd ha h0 h1
  have e : fd a b = a.tdiv b := fd_of_tdiv h0 (by
    rcases hs with hs | hs
    · exact Or.inl (by simpa using hs)
    · right
      by_cases hn : a < 0 <;> by_cases hm : b < 0 <;> simp [hn, hm] at hs ⊢)
  rw [IntWalk.wrap64_in (a.tdiv b) (by omega), (dd_ok h0 h1).1, (dd_ok h0 h1).2, e]; exact ⟨rfl, rfl⟩
end
section
variable {b : Int} (h0 : b ≠ 0) (h1 : b ≠ -1)
include h0 h1
theorem min_exact (h : 9223372036854775808 % b = 0) : wrap64 (-Int.tdiv 9223372036854775808 b) = dd (-9223372036854775808) b ∧ 0 = dde (-9223372036854775808) b := by
  rw [← Int.neg_tdiv]
  exact way_exact (by omega) h0 (fun e => h1 e.2) (by rw [Int.neg_tmod, Int.tmod_eq_emod_of_nonneg (by omega), h]; rfl)
theorem min_less (h : ¬ 9223372036854775808 % b = 0) (hs : (!decide (b < 0)) = true) : wrap64 (wrap64 (-Int.tdiv 9223372036854775808 b) - 1) = dd (-9223372036854775808) b ∧ 0 = dde (-9223372036854775808) b := by
  rw [← Int.neg_tdiv]
  exact way_less (by omega) h0 (fun e => h1 e.2) (by rw [Int.neg_tmod, Int.tmod_eq_emod_of_nonneg (by omega)]; omega) (by by_cases hm : b < 0 <;> simp [hm] at hs ⊢)
theorem min_same (h : ¬ 9223372036854775808 % b = 0) (hs : (-(9223372036854775808 % b) != 0) = false ∨ (!decide (b < 0)) = false) : wrap64 (-Int.tdiv 9223372036854775808 b) = dd (-9223372036854775808) b ∧ 0 = dde (-9223372036854775808) b := by
  rw [← Int.neg_tdiv]
  refine way_same (by omega) h0 (fun e => h1 e.2) (by rw [Int.neg_tmod, Int.tmod_eq_emod_of_nonneg (by omega)]; omega) ?_
  right
  rcases hs with hs | hs
  · exfalso; exact h (by simpa using hs)
  · by_cases hm : b < 0 <;> simp [hm] at hs ⊢
end
/-- Between. -/
def btw (n low high : Int) : Int := if n < low ∨ high < low then low else if high < n then high else n
end Num
end Go.Proofs.Ytokioemmjfjhkaa
