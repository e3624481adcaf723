/- The words of the doubles that are whole numbers over a power of two: what they read as, how they compare, multiplied by one. -/
import Derived.Test.YtoafljgcmloilaaDoorTof
import Derived.Laws.FloatArith
namespace Go.Proofs.YtoafljgcmloilaaDoor
open Go.RowKit
namespace Fw
open Ieee
/-- The word of a sign, an exponent, a fraction. -/
def wd (ng : Bool) (E M : Nat) : Nat := (if ng then 9223372036854775808 else 0) + (E * 4503599627370496 + M)
theorem wd_lt {ng : Bool} {E M : Nat} (hE : E ≤ 2046) (hM : M < 4503599627370496) : wd ng E M < 18446744073709551616 := by unfold wd; split <;> omega
theorem wd_pos {E M : Nat} : wd false E M = E * 4503599627370496 + M := by simp only [wd, Bool.false_eq_true, if_false]; omega
theorem wd_neg {E M : Nat} : wd true E M = 9223372036854775808 + (E * 4503599627370496 + M) := by simp only [wd, if_true]
theorem wd_nz {ng : Bool} {E M : Nat} (h : 1 ≤ E) : 0 < wd ng E M := by unfold wd; split <;> omega
theorem d_sw : double.signWeight = 9223372036854775808 := by decide +kernel
theorem d_bi : double.binade = 4503599627370496 := by decide +kernel
theorem d_in : double.infRung = 9218868437227405312 := by decide +kernel
theorem d_lp : double.leastPlace = -1074 := by decide +kernel
theorem read_wd {ng : Bool} {E M : Nat} (h1 : 1 ≤ E) (h2 : E ≤ 2046) (hM : M < 4503599627370496) : double.read (wd ng E M) = .number ng (4503599627370496 + M) ((E : Int) - 1075) := by
  have r1 : wd ng E M % 9223372036854775808 = E * 4503599627370496 + M := by cases ng <;> simp only [wd_pos, wd_neg] <;> omega
  have r2 : (wd ng E M / 9223372036854775808 % 2 == 1) = ng := by
    cases ng
    · rw [wd_pos, show (E * 4503599627370496 + M) / 9223372036854775808 % 2 = 0 by omega]; rfl
    · rw [wd_neg, show (9223372036854775808 + (E * 4503599627370496 + M)) / 9223372036854775808 % 2 = 1 by omega]; rfl
  unfold Format.read
  simp only [d_sw, d_bi, d_in, d_lp, r1, r2]
  rw [if_neg (by omega), if_pos (by omega)]
  rw [show (E * 4503599627370496 + M) % 4503599627370496 = M by omega, show (E * 4503599627370496 + M) / 4503599627370496 = E by omega]
  rw [show (-1074 : Int) + ((E - 1 : Nat) : Int) = (E : Int) - 1075 by omega]
theorem cmp_lt {a b : Int} (h : a < b) : compare a b = .lt := by show compareOfLessAndEq a b = .lt; unfold compareOfLessAndEq; rw [if_pos h]
theorem cmp_eq {a b : Int} (h : a = b) : compare a b = .eq := by show compareOfLessAndEq a b = .eq; unfold compareOfLessAndEq; rw [if_neg (by omega), if_pos h]
theorem cmp_gt {a b : Int} (h : b < a) : compare a b = .gt := by show compareOfLessAndEq a b = .gt; unfold compareOfLessAndEq; rw [if_neg (by omega), if_neg (by omega)]
/-- The sign of a number of units. -/
def sgn (ng : Bool) (k : Nat) : Int := if ng then -(k : Int) else (k : Int)
theorem signed_eq (ng : Bool) (m k : Nat) : signed ng m k = sgn ng (m * 2 ^ k) := by unfold signed sgn; rw [Nat.shiftLeft_eq]
theorem ord_num (s t : Bool) (m n : Nat) (i j : Int) : Datum.order (.number s m i) (.number t n j) = some (compare (sgn s (m * 2 ^ (i - min i j).toNat)) (sgn t (n * 2 ^ (j - min i j).toNat))) := by
  show some (compare (signed s m (i - min i j).toNat) (signed t n (j - min i j).toNat)) = _
  rw [signed_eq, signed_eq]
theorem ord_def (x y : Nat) : FloatKind.f64.format.order x y = Datum.order (double.read x) (double.read y) := rfl
theorem rd0 : double.read 0 = .number false 0 (-1074) := by decide +kernel
theorem rdmin : double.read 4503599627370496 = .number false 4503599627370496 (-1074) := by decide +kernel
theorem rdmax : double.read 9218868437227405311 = .number false 9007199254740991 971 := by decide +kernel
theorem rd53 : double.read 4845873199050653696 = .number false 4503599627370496 1 := by decide +kernel
theorem rd1 : double.read 4607182418800017408 = .number false 4503599627370496 (-52) := by decide +kernel
section
variable {ng : Bool} {E M : Nat} (h1 : 1 ≤ E) (h2 : E ≤ 2046) (hM : M < 4503599627370496)
include h1 h2 hM
theorem ord_zero : FloatKind.f64.format.order (wd ng E M) 0 = some (if ng then .lt else .gt) := by
  rw [ord_def, read_wd h1 h2 hM, rd0, ord_num]
  have p : 0 < (4503599627370496 + M) * 2 ^ ((E : Int) - 1075 - min ((E : Int) - 1075) (-1074)).toNat := Nat.mul_pos (by omega) (Nat.two_pow_pos _)
  rw [Nat.zero_mul]
  generalize (4503599627370496 + M) * 2 ^ ((E : Int) - 1075 - min ((E : Int) - 1075) (-1074)).toNat = k at *
  cases ng
  · rw [cmp_gt (by simp only [sgn, Bool.false_eq_true, if_false]; omega)]; rfl
  · rw [cmp_lt (by simp only [sgn, Bool.false_eq_true, if_false, if_true]; omega)]; rfl
theorem ord_zero' : FloatKind.f64.format.order 0 (wd ng E M) = some (if ng then .gt else .lt) := by
  rw [ord_def, read_wd h1 h2 hM, rd0, ord_num]
  have p : 0 < (4503599627370496 + M) * 2 ^ ((E : Int) - 1075 - min (-1074) ((E : Int) - 1075)).toNat := Nat.mul_pos (by omega) (Nat.two_pow_pos _)
  rw [Nat.zero_mul]
  generalize (4503599627370496 + M) * 2 ^ ((E : Int) - 1075 - min (-1074) ((E : Int) - 1075)).toNat = k at *
  cases ng
  · rw [cmp_lt (by simp only [sgn, Bool.false_eq_true, if_false]; omega)]; rfl
  · rw [cmp_gt (by simp only [sgn, Bool.false_eq_true, if_false, if_true]; omega)]; rfl
theorem ord_min : (FloatKind.f64.format.order (wd false E M) 4503599627370496 == some .lt) = false := by
  rw [ord_def, read_wd h1 h2 hM, rdmin, ord_num, show min ((E : Int) - 1075) (-1074) = -1074 by omega, show ((-1074 : Int) - -1074).toNat = 0 by decide]
  have p : 1 ≤ 2 ^ ((E : Int) - 1075 - -1074).toNat := Nat.two_pow_pos _
  have q := Nat.mul_le_mul (Nat.le_add_right 4503599627370496 M) p
  generalize (4503599627370496 + M) * 2 ^ ((E : Int) - 1075 - -1074).toNat = k at *
  by_cases e : k = 4503599627370496
  · rw [cmp_eq (by simp only [sgn, Bool.false_eq_true, if_false]; omega)]; rfl
  · rw [cmp_gt (by simp only [sgn, Bool.false_eq_true, if_false]; omega)]; rfl
theorem ord_max : (FloatKind.f64.format.order (wd false E M) 9218868437227405311 == some .gt) = false := by
  rw [ord_def, read_wd h1 h2 hM, rdmax, ord_num, show min ((E : Int) - 1075) 971 = (E : Int) - 1075 by omega, show ((E : Int) - 1075 - ((E : Int) - 1075)).toNat = 0 by omega]
  have p : 1 ≤ 2 ^ (971 - ((E : Int) - 1075)).toNat := Nat.two_pow_pos _
  have q := Nat.mul_le_mul (Nat.le_refl 9007199254740991) p
  generalize 9007199254740991 * 2 ^ (971 - ((E : Int) - 1075)).toNat = k at *
  by_cases e : 4503599627370496 + M = k
  · rw [cmp_eq (by simp only [sgn, Bool.false_eq_true, if_false]; omega)]; rfl
  · rw [cmp_lt (by simp only [sgn, Bool.false_eq_true, if_false]; omega)]; rfl
theorem ord_self : (FloatKind.f64.format.order (wd ng E M) (wd ng E M) != some .eq) = false := by
  rw [ord_def, read_wd h1 h2 hM, ord_num, cmp_eq rfl]; rfl
theorem ord_53 (h3 : E ≤ 1075) : (FloatKind.f64.format.order (wd false E M) 4845873199050653696 == some .gt || FloatKind.f64.format.order (wd false E M) 4845873199050653696 == some .eq) = false := by
  rw [ord_def, read_wd h1 h2 hM, rd53, ord_num, show min ((E : Int) - 1075) 1 = (E : Int) - 1075 by omega, show ((E : Int) - 1075 - ((E : Int) - 1075)).toNat = 0 by omega]
  have p : 2 ^ 1 ≤ 2 ^ (1 - ((E : Int) - 1075)).toNat := Nat.pow_le_pow_right (by decide) (by omega)
  have q := Nat.mul_le_mul (Nat.le_refl 4503599627370496) p
  generalize 4503599627370496 * 2 ^ (1 - ((E : Int) - 1075)).toNat = k at *
  rw [cmp_lt (by simp only [sgn, Bool.false_eq_true, if_false]; omega)]; rfl
theorem mul_one' : floatBits .mul .f64 4607182418800017408 (wd ng E M) = some (wd ng E M) := by
  show double.mul 4607182418800017408 (wd ng E M) = _
  unfold Format.mul
  rw [rd1, read_wd h1 h2 hM]
  show some (double.nearest (false ^^ ng) (4503599627370496 * (4503599627370496 + M)) (-52 + ((E : Int) - 1075))) = _
  rw [Bool.false_xor]
  congr 1
  have hl : (4503599627370496 * (4503599627370496 + M)).log2 = 104 := by
    rw [Nat.log2_eq_iff (by omega)]
    constructor <;> omega
  unfold Format.nearest
  rw [if_neg (by omega), hl]
  simp only [d_lp, d_bi, d_in, show double.fractionBits = 52 from rfl]
  rw [show max (-52 + ((E : Int) - 1075) + ((104 : Nat) : Int) - ((52 : Nat) : Int)) (-1074) = (E : Int) - 1075 by omega]
  rw [show (-52 + ((E : Int) - 1075) - ((E : Int) - 1075)).toNat = 0 by omega, show ((E : Int) - 1075 - (-52 + ((E : Int) - 1075))).toNat = 52 by omega, show ((E : Int) - 1075 - -1074).toNat = E - 1 by omega, Nat.shiftLeft_zero]
  have c : Toward.even.cut ng (4503599627370496 * (4503599627370496 + M)) 52 = 4503599627370496 + M := by
    unfold Toward.cut
    rw [hl]
    rw [show (1 : Nat) <<< min 52 (104 + 2) = 4503599627370496 by decide]
    simp only
    rw [show 4503599627370496 * (4503599627370496 + M) / 4503599627370496 = 4503599627370496 + M by omega, show 4503599627370496 * (4503599627370496 + M) % 4503599627370496 = 0 by omega]
    simp
  rw [c, Nat.min_eq_left (by omega)]
  unfold Format.word wd
  rw [d_sw]
  cases ng <;> simp only [Bool.false_eq_true, if_false, if_true] <;> omega
theorem not63 : bits .andNot .u64 ((wd ng E M : Nat) : Int) 9223372036854775808 = ((wd false E M : Nat) : Int) := by
  have q := u64_andNot_nat (wd ng E M) 9223372036854775808 (wd_lt h2 hM) (by decide)
  have e : (18446744073709551615 : Nat) - 9223372036854775808 = 2 ^ 63 - 1 := by decide
  rw [e, Nat.and_two_pow_sub_one_eq_mod] at q
  have r : wd ng E M % 2 ^ 63 = wd false E M := by cases ng <;> simp only [wd_pos, wd_neg] <;> omega
  rw [r] at q
  exact q
omit h1 h2 in
theorem or_sum (s : Nat) : (s * 9223372036854775808) ||| M = s * 9223372036854775808 + M := by
  have := Nat.two_pow_add_eq_or_of_lt (i := 63) (b := M) (by omega) s
  rw [show (2 : Nat) ^ 63 = 9223372036854775808 by decide, Nat.mul_comm] at this
  exact this.symm
omit h1 h2 hM in
theorem and_pow (n i : Nat) : n &&& 2 ^ i = (n.testBit i).toNat * 2 ^ i := by
  apply Nat.eq_of_testBit_eq
  intro j
  rw [Nat.testBit_and, Nat.testBit_two_pow]
  by_cases e : i = j
  · subst e
    cases h : n.testBit i <;> simp
  · cases h : n.testBit i <;> simp [e]
theorem notE : bits .andNot .u64 ((wd ng E M : Nat) : Int) 9218868437227405312 = ((wd ng 0 M : Nat) : Int) := by
  have q := u64_andNot_nat (wd ng E M) 9218868437227405312 (wd_lt h2 hM) (by decide)
  have e : (18446744073709551615 : Nat) - 9218868437227405312 = 2 ^ 63 ||| (2 ^ 52 - 1) := by decide
  rw [e, Nat.and_or_distrib_left, Nat.and_two_pow_sub_one_eq_mod, and_pow, Nat.testBit_eq_decide_div_mod_eq] at q
  have r : wd ng E M % 2 ^ 52 = M := by cases ng <;> simp only [wd_pos, wd_neg] <;> omega
  have r2 : (decide (wd ng E M / 2 ^ 63 % 2 = 1)).toNat = (if ng then 1 else 0) := by
    cases ng
    · rw [wd_pos, show (E * 4503599627370496 + M) / 2 ^ 63 % 2 = 0 by omega]; rfl
    · rw [wd_neg, show (9223372036854775808 + (E * 4503599627370496 + M)) / 2 ^ 63 % 2 = 1 by omega]; rfl
  rw [r, r2, show (2 : Nat) ^ 63 = 9223372036854775808 by decide, or_sum hM _] at q
  have r3 : (if ng then 1 else 0) * 9223372036854775808 + M = wd ng 0 M := by unfold wd; cases ng <;> simp
  rw [r3] at q
  exact q
theorem orE : bits .or .u64 ((wd ng 0 M : Nat) : Int) ((E * 4503599627370496 : Nat) : Int) = ((wd ng E M : Nat) : Int) := by
  have q := bits_or_u64_nat (wd ng 0 M) (E * 4503599627370496) (wd_lt (by omega) hM) (by omega)
  have r3 : wd ng 0 M = (if ng then 1 else 0) * 9223372036854775808 ||| M := by
    rw [or_sum hM _]; unfold wd; cases ng <;> simp
  have r4 : M ||| E * 4503599627370496 = E * 4503599627370496 + M := by
    rw [Nat.or_comm]
    have := Nat.two_pow_add_eq_or_of_lt (i := 52) (b := M) (by omega) E
    rw [show (2 : Nat) ^ 52 = 4503599627370496 by decide, Nat.mul_comm] at this
    exact this.symm
  have r5 : (if ng then 1 else 0) * 9223372036854775808 ||| (E * 4503599627370496 + M) = wd ng E M := by
    have := Nat.two_pow_add_eq_or_of_lt (i := 63) (b := E * 4503599627370496 + M) (by omega) (if ng then 1 else 0)
    rw [show (2 : Nat) ^ 63 = 9223372036854775808 by decide, Nat.mul_comm] at this
    rw [← this]
    unfold wd; cases ng <;> simp
  rw [r3, Nat.or_assoc, r4, r5, ← r3] at q
  exact q
end
end Fw
end Go.Proofs.YtoafljgcmloilaaDoor
