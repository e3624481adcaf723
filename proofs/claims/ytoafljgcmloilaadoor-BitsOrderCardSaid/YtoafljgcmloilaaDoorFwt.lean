/- bits.ToFixed undoes bits.FromFixed. -/
import Derived.Test.YtoafljgcmloilaaDoorFwi
namespace Go.Proofs.YtoafljgcmloilaaDoor
open Go.RowKit
namespace Fw
open Tof Kit
theorem ef_wd {ng : Bool} {E M : Nat} (h2 : E ≤ 2046) (hM : M < 4503599627370496) : ef (wd ng E M) = E := by
  unfold ef; cases ng <;> simp only [wd_pos, wd_neg] <;> omega
theorem ff_wd {ng : Bool} {E M : Nat} (hM : M < 4503599627370496) : ff (wd ng E M) = M := by
  unfold ff; cases ng <;> simp only [wd_pos, wd_neg] <;> omega
theorem neg_wd {ng : Bool} {E M : Nat} (h2 : E ≤ 2046) (hM : M < 4503599627370496) : neg (wd ng E M) = ng := by
  unfold neg
  cases ng
  · rw [wd_pos, decide_eq_false_iff_not]; omega
  · rw [wd_neg, decide_eq_true_iff]; omega
theorem sg_abs (n : Int) : sg (decide (n < 0)) n.natAbs true = n := by
  unfold sg
  by_cases h : n < 0
  · rw [decide_eq_true h]; simp only [if_true]; omega
  · rw [decide_eq_false h]; simp only [Bool.false_eq_true, if_false]; omega
theorem fits_abs {n : Int} (h1 : -9007199254740992 ≤ n) (h2 : n ≤ 9007199254740992) : fits (decide (n < 0)) n.natAbs true = true := by
  unfold fits
  by_cases h : n < 0
  · rw [decide_eq_true h]; simp only [if_true, decide_eq_true_eq]; omega
  · rw [decide_eq_false h]; simp only [Bool.false_eq_true, if_false, decide_eq_true_eq]; omega
theorem fx_range {n : Int} {sc : Nat} (h0 : n ≠ 0) (h1 : -9007199254740992 ≤ n) (h2 : n ≤ 9007199254740992) :
    ∃ E M : Nat, fx n sc = wd (decide (n < 0)) E M ∧ 4503599627370496 + M = mg n.natAbs ∧ E = 1023 + n.natAbs.log2 - sc ∧ M < 4503599627370496 ∧ n.natAbs.log2 ≤ 53 := by
  obtain ⟨l1, -, -⟩ := log_bd (a := n.natAbs) (by omega) (by omega)
  obtain ⟨-, m2, m3⟩ := two_mg (a := n.natAbs) (by omega) (by omega)
  exact ⟨_, mg n.natAbs - 4503599627370496, by unfold fx; rw [if_neg h0], by omega, rfl, by omega, l1⟩
theorem fx_lt {n : Int} {sc : Nat} (h1 : -9007199254740992 ≤ n) (h2 : n ≤ 9007199254740992) : fx n sc < 18446744073709551616 := by
  by_cases h0 : n = 0
  · unfold fx; rw [if_pos h0]; decide
  · obtain ⟨E, M, e, -, hE, hM, hl⟩ := fx_range (sc := sc) h0 h1 h2
    rw [e]; exact wd_lt (by omega) hM
theorem back {n : Int} {sc : Nat} (h1 : -9007199254740992 ≤ n) (h2 : n ≤ 9007199254740992) (hsc : sc ≤ 60) : tof (fx n sc) (sc : Nat) = (n, true, 0) := by
  unfold tof
  rw [if_neg (by omega)]
  by_cases h0 : n = 0
  · have e : fx n sc = 0 := by unfold fx; rw [if_pos h0]
    rw [e, if_neg (by decide)]
    unfold fin
    rw [if_pos (by decide), h0]
  obtain ⟨E, M, e, hm, hE, hM, hl⟩ := fx_range (sc := sc) h0 h1 h2
  have hE1 : 1 ≤ E := by omega
  have hE2 : E ≤ 2046 := by omega
  rw [e, ef_wd hE2 hM, if_neg (by omega), neg_wd hE2 hM]
  have q1 : Tof.mt (wd (decide (n < 0)) E M) = mg n.natAbs := by unfold Tof.mt; rw [ef_wd hE2 hM, if_neg (by omega), ff_wd hM, hm]
  have q2 : ex (wd (decide (n < 0)) E M) - 1075 + ((sc : Nat) : Int) = (n.natAbs.log2 : Int) - 52 := by unfold ex; rw [ef_wd hE2 hM, if_neg (by omega)]; omega
  rw [q1, q2]
  obtain ⟨l1, l2, l3⟩ := log_bd (a := n.natAbs) (by omega) (by omega)
  obtain ⟨m1, m2, m3⟩ := two_mg (a := n.natAbs) (by omega) (by omega)
  have fi := fits_abs h1 h2
  have sa := sg_abs n
  have ha : n.natAbs ≤ 9007199254740992 := by omega
  generalize decide (n < 0) = ng at *
  generalize n.natAbs = a at *
  unfold fin
  rw [if_neg (by omega)]
  by_cases hl2 : a.log2 = 53
  · rw [hl2] at l2
    have ea : a = 9007199254740992 := by omega
    have em : mg a = 4503599627370496 := by rw [ea]; decide +kernel
    rw [hl2, em, if_neg (by decide +kernel)]
    have qq : qo 4503599627370496 (((53 : Nat) : Int) - 52) = a := by rw [ea]; decide +kernel
    have xx : xa 4503599627370496 (((53 : Nat) : Int) - 52) = true := by decide +kernel
    rw [qq, xx, fi, if_neg (by decide), sa]
  · have hb := (bl_bd (mg a) (by omega) (by omega)).2.2
    rw [if_neg (by omega)]
    have em : mg a = a * 2 ^ (52 - a.log2) := by
      rw [show 53 - a.log2 = (52 - a.log2) + 1 by omega, Nat.pow_succ, ← Nat.mul_assoc] at m1
      omega
    have qq : qo (mg a) ((a.log2 : Int) - 52) = a := by
      unfold qo
      by_cases hs : a.log2 = 52
      · rw [if_pos (by omega), em, hs]; simp
      · rw [if_neg (by omega), em, show (min (-((a.log2 : Int) - 52)) 63).toNat = 52 - a.log2 by omega, Nat.mul_div_cancel _ (Nat.two_pow_pos _)]
    have xx : xa (mg a) ((a.log2 : Int) - 52) = true := by
      unfold xa
      by_cases hs : a.log2 = 52
      · rw [if_pos (by omega)]
      · rw [if_neg (by omega), em, show (min (-((a.log2 : Int) - 52)) 63).toNat = 52 - a.log2 by omega, Nat.mul_mod_left]; rfl
    rw [qq, xx, fi, if_neg (by decide), sa]
end Fw
end Go.Proofs.YtoafljgcmloilaaDoor
