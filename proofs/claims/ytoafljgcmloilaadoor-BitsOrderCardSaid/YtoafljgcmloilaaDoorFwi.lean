/- bits.FromFixed: what it returns. -/
import Derived.Test.YtoafljgcmloilaaDoorFwd
import Derived.Test.YtoafljgcmloilaaDoorFbit
import Derived.Laws.Externs
namespace Go.Proofs.YtoafljgcmloilaaDoor
open Go.RowKit
namespace Fw
open Ieee Kit Dec
/-- The digits of a number, from the first. -/
def mg (a : Nat) : Nat := a * 2 ^ (53 - a.log2) / 2
theorem log_bd {a : Nat} (h0 : 0 < a) (h : a ≤ 9007199254740992) : a.log2 ≤ 53 ∧ 2 ^ a.log2 ≤ a ∧ a < 2 ^ (a.log2 + 1) := by
  have h1 : 2 ^ a.log2 ≤ a := Nat.log2_self_le (by omega)
  refine ⟨?_, h1, Nat.lt_log2_self⟩
  have h2 : a.log2 < 54 := (Nat.log2_lt (by omega)).2 (by omega)
  omega
theorem two_mg {a : Nat} (h0 : 0 < a) (h : a ≤ 9007199254740992) : 2 * mg a = a * 2 ^ (53 - a.log2) ∧ 4503599627370496 ≤ mg a ∧ mg a < 9007199254740992 := by
  obtain ⟨l1, l2, l3⟩ := log_bd h0 h
  have e1 : 2 ^ a.log2 * 2 ^ (53 - a.log2) = 9007199254740992 := by rw [← Nat.pow_add, show a.log2 + (53 - a.log2) = 53 by omega]
  have b1 := Nat.mul_le_mul_right (2 ^ (53 - a.log2)) l2
  have b2 := Nat.mul_lt_mul_of_pos_right l3 (Nat.two_pow_pos (53 - a.log2))
  rw [e1] at b1
  have e2 : 2 ^ (a.log2 + 1) * 2 ^ (53 - a.log2) = 18014398509481984 := by rw [Nat.pow_succ, Nat.mul_right_comm, e1]
  rw [e2] at b2
  have ev : a * 2 ^ (53 - a.log2) % 2 = 0 := by
    by_cases hl : a.log2 = 53
    · rw [hl] at l2 ⊢
      have : a = 9007199254740992 := by omega
      subst this; decide
    · rw [show 53 - a.log2 = (52 - a.log2) + 1 by omega, Nat.pow_succ, ← Nat.mul_assoc]; omega
  unfold mg
  omega
theorem cut0 (ng : Bool) (n : Nat) : Toward.even.cut ng n 0 = n := by
  unfold Toward.cut
  rw [Nat.zero_min]
  simp [Nat.mod_one]
theorem foi {n : Int} (h0 : n ≠ 0) (h1 : -9007199254740992 ≤ n) (h2 : n ≤ 9007199254740992) : floatOfInt .f64 n = wd (decide (n < 0)) (1023 + n.natAbs.log2) (mg n.natAbs - 4503599627370496) := by
  show double.nearest (decide (n < 0)) n.natAbs 0 = _
  generalize decide (n < 0) = ng
  have ha : 0 < n.natAbs := by omega
  have hb : n.natAbs ≤ 9007199254740992 := by omega
  generalize n.natAbs = a at *
  obtain ⟨l1, l2, l3⟩ := log_bd ha hb
  obtain ⟨m1, m2, m3⟩ := two_mg ha hb
  unfold Format.nearest
  rw [if_neg (by omega)]
  simp only [d_lp, d_bi, d_in, show double.fractionBits = 52 from rfl]
  rw [show max ((0 : Int) + (a.log2 : Int) - ((52 : Nat) : Int)) (-1074) = (a.log2 : Int) - 52 by omega]
  have k : Toward.even.cut ng (a <<< (0 - ((a.log2 : Int) - 52)).toNat) ((a.log2 : Int) - 52 - 0).toNat = mg a := by
    by_cases hl : a.log2 = 53
    · rw [hl] at l2
      have : a = 9007199254740992 := by omega
      subst this
      cases ng <;> decide +kernel
    · rw [show ((a.log2 : Int) - 52 - 0).toNat = 0 by omega, cut0, Nat.shiftLeft_eq, show (0 - ((a.log2 : Int) - 52)).toNat = 52 - a.log2 by omega]
      rw [show 53 - a.log2 = (52 - a.log2) + 1 by omega, Nat.pow_succ, ← Nat.mul_assoc] at m1
      omega
  rw [k, show ((a.log2 : Int) - 52 - -1074).toNat = a.log2 + 1022 by omega, Nat.min_eq_left (by omega)]
  unfold Format.word wd
  rw [d_sw]
  cases ng <;> simp only [Bool.false_eq_true, if_false, if_true] <;> omega
theorem and11i {x : Nat} (_ : x < 9223372036854775808) : bits .and .i64 ((x : Nat) : Int) 2047 = ((x % 2048 : Nat) : Int) := by
  have h127 : (BitVec.ofInt 64 2047).toNat = 2 ^ 11 - 1 := by decide
  have key : (BitVec.ofInt 64 (x : Int) &&& BitVec.ofInt 64 2047).toNat = ((x : Int) % ((2 ^ 64 : Nat) : Int)).toNat % 2 ^ 11 := by
    rw [BitVec.toNat_and, BitVec.toNat_ofInt, h127, Nat.and_two_pow_sub_one_eq_mod]
  show IntKind.i64.wrap ((BitVec.ofInt 64 (x : Int) &&& BitVec.ofInt 64 2047).toNat : Nat) = _
  rw [key, IntKind.wrap_i64]
  omega
section
variable (w : World)
theorem abs_w (X A : Nat) (h : bits .andNot .u64 ((X : Nat) : Int) 9223372036854775808 = ((A : Nat) : Int)) : Calls Tryd.prog 17 #[.float .f64 X] w fun e w' => e = .returned (.float .f64 A) ∧ w = w' := by
  have tb := to_bits X
  have ob : ∀ w, (callFunc 18 #[.int .u64 ((A : Nat) : Int)]).run Tryd.prog w = .ok (.value (.float .f64 A)) w := fun w => of_bits ((A : Nat) : Int) w
  go_enter Tryd.func17, Tryd.ntmps17
  go_wp2_with fail
  go_ret
  exact ⟨rfl, rfl⟩
theorem norm_w (X A : Nat) (h : bits .andNot .u64 ((X : Nat) : Int) 9223372036854775808 = ((A : Nat) : Int)) (hm : (FloatKind.f64.format.order A 4503599627370496 == some .lt) = false) :
    Calls Tryd.prog 35 #[.float .f64 X] w fun e w' => e = .returned (.tuple #[.float .f64 X, .int .i64 0]) ∧ w = w' := by
  have C := Lib.hid (abs_w w X A h)
  clear h
  go_enter Tryd.func35, Tryd.ntmps35
  go_wp2_with fail
  (with_reducible refine C.out.mono ?_); rintro e w1 ⟨rfl, rfl⟩
  go_wp2_with fail
  refine bodyPost_ret (v := .tuple #[.float .f64 X, .int .i64 0]) (by simp [results, Tryd.results35, go_sem]) rfl ?_
  exact ⟨rfl, rfl⟩
theorem inf_w (X A : Nat) (h : bits .andNot .u64 ((X : Nat) : Int) 9223372036854775808 = ((A : Nat) : Int)) (hm : (FloatKind.f64.format.order A 9218868437227405311 == some .gt) = false) :
    Calls Tryd.prog 33 #[.float .f64 X, .int .i64 0] w fun e w' => e = .returned (.bool false) ∧ w = w' := by
  have C := Lib.hid (abs_w w X A h)
  clear h
  go_enter Tryd.func33, Tryd.ntmps33
  go_wp2_with fail
  (with_reducible refine C.out.mono ?_); rintro e w1 ⟨rfl, rfl⟩
  go_wp2_with fail
  go_ret
  exact ⟨rfl, rfl⟩
theorem nan_w (X : Nat) (hm : (FloatKind.f64.format.order X X != some .eq) = false) : Calls Tryd.prog 34 #[.float .f64 X] w fun e w' => e = .returned (.bool false) ∧ w = w' := by
  go_enter Tryd.func34, Tryd.ntmps34
  go_wp2_with fail
  go_ret
  exact ⟨rfl, rfl⟩
end
set_option maxRecDepth 100000 in
set_option maxHeartbeats 8000000 in
theorem ld_w (X X0 Y E sc : Nat) (w : World) (hX : X < 18446744073709551616) (h0 : (FloatKind.f64.format.order X 0 == some .eq) = false)
    (INF : Hid (∀ w, Calls Tryd.prog 33 #[.float .f64 X, .int .i64 0] w fun e w' => e = .returned (.bool false) ∧ w = w'))
    (NAN : Hid (∀ w, Calls Tryd.prog 34 #[.float .f64 X] w fun e w' => e = .returned (.bool false) ∧ w = w'))
    (NRM : Hid (∀ w, Calls Tryd.prog 35 #[.float .f64 X] w fun e w' => e = .returned (.tuple #[.float .f64 X, .int .i64 0]) ∧ w = w'))
    (hb : bits .and .i64 ((X : Int) / 4503599627370496) 2047 = (E : Int)) (hE1 : 1023 ≤ E) (hE2 : E ≤ 1076) (hsc : sc ≤ 60)
    (hn : bits .andNot .u64 (X : Int) 9218868437227405312 = ((X0 : Nat) : Int)) (ho : bits .or .u64 ((X0 : Nat) : Int) ((-(sc : Int) + ((E : Int) - 1023) + 1023) * 4503599627370496) = ((Y : Nat) : Int)) (hm : floatBits .mul .f64 4607182418800017408 Y = some Y) :
    Calls Tryd.prog 23 #[.float .f64 X, .int .i64 (-(sc : Int))] w fun e w' => e = .returned (.float .f64 Y) ∧ w = w' := by
  have tb := to_bits X
  have ob : ∀ w, (callFunc 18 #[.int .u64 ((Y : Nat) : Int)]).run Tryd.prog w = .ok (.value (.float .f64 Y)) w := fun w => of_bits ((Y : Nat) : Int) w
  have hd1 : 0 ≤ (X : Int) / 4503599627370496 := by omega
  have hd2 : (X : Int) / 4503599627370496 < 4096 := by omega
  have hml : ∀ (t : TypeId) w, (binOp .mul t (.float .f64 4607182418800017408) (.float .f64 Y)).run Tryd.prog w = .ok (.float .f64 Y) w := fun t w => run_float_arith w .mul t .f64 _ _ _ hm
  clear hm
  go_enter Tryd.func23, Tryd.ntmps23
  go_wp2_with fail
  (with_reducible refine (INF.out _).mono ?_); rintro e w1 ⟨rfl, rfl⟩
  go_wp2_with fail
  (with_reducible refine (NAN.out _).mono ?_); rintro e w1 ⟨rfl, rfl⟩
  go_wp2_with fail
  (with_reducible refine (NRM.out _).mono ?_); rintro e w1 ⟨rfl, rfl⟩
  go_wp2_with fail
  go_ret
  exact ⟨rfl, rfl⟩
/-- math.Ldexp at a double of that range. -/
theorem ldx_w (ng : Bool) (E M sc : Nat) (w : World) (hM : M < 4503599627370496) (hE1 : 1023 ≤ E) (hE2 : E ≤ 1076) (hsc : sc ≤ 60) :
    Calls Tryd.prog 16 #[.float .f64 (wd ng E M), .int .i64 (-(sc : Int))] w fun e w' => e = .returned (.float .f64 (wd ng (E - sc) M)) ∧ w = w' := by
  have q : ∀ w, Calls Tryd.prog 23 #[.float .f64 (wd ng E M), .int .i64 (-(sc : Int))] w fun e w' => e = .returned (.float .f64 (wd ng (E - sc) M)) ∧ w = w' := fun w =>
    ld_w (wd ng E M) (wd ng 0 M) (wd ng (E - sc) M) E sc w (wd_lt (by omega) hM) (by rw [ord_zero (by omega) (by omega) hM]; cases ng <;> rfl)
      (Lib.hid fun w => inf_w w _ _ (not63 (by omega) (by omega) hM) (ord_max (by omega) (by omega) hM)) (Lib.hid fun w => nan_w w _ (ord_self (by omega) (by omega) hM))
      (Lib.hid fun w => norm_w w _ _ (not63 (by omega) (by omega) hM) (ord_min (by omega) (by omega) hM))
      (by
        have h := and11i (x := wd ng E M / 4503599627370496) (by have := wd_lt (ng := ng) (E := E) (M := M) (by omega) hM; omega)
        rw [show ((wd ng E M / 4503599627370496 : Nat) : Int) = ((wd ng E M : Nat) : Int) / 4503599627370496 by omega] at h
        rw [h]
        congr 1
        cases ng <;> simp only [wd_pos, wd_neg] <;> omega)
      hE1 hE2 hsc (notE (by omega) (by omega) hM)
      (by
        have h := orE (ng := ng) (E := E - sc) (M := M) (by omega) (by omega) hM
        rw [← h]
        congr 1
        omega)
      (mul_one' (by omega) (by omega) hM)
  generalize wd ng E M = X at *
  generalize wd ng (E - sc) M = Y at *
  have Q := Lib.hid q
  clear q
  go_enter Tryd.func16, Tryd.ntmps16
  go_wp2_with fail
  (with_reducible refine (Q.out _).mono ?_); rintro e w1 ⟨rfl, rfl⟩
  go_wp2_with fail
  go_ret
  exact ⟨rfl, rfl⟩
/-- math.Ldexp at nothing. -/
theorem ldx_0 (k : Int) (w : World) : Calls Tryd.prog 16 #[.float .f64 0, .int .i64 k] w fun e w' => e = .returned (.float .f64 0) ∧ w = w' := by
  have z : (FloatKind.f64.format.order 0 0 == some .eq) = true := by decide +kernel
  have Q : Hid (∀ w, Calls Tryd.prog 23 #[.float .f64 0, .int .i64 k] w fun e w' => e = .returned (.float .f64 0) ∧ w = w') := Lib.hid fun w => by
    go_enter Tryd.func23, Tryd.ntmps23
    go_wp2_with fail
    go_ret
    exact ⟨rfl, rfl⟩
  go_enter Tryd.func16, Tryd.ntmps16
  go_wp2_with fail
  (with_reducible refine (Q.out _).mono ?_); rintro e w1 ⟨rfl, rfl⟩
  go_wp2_with fail
  go_ret
  exact ⟨rfl, rfl⟩
/-- The word of n / 2^scale. -/
def fx (n : Int) (sc : Nat) : Nat := if n = 0 then 0 else wd (decide (n < 0)) (1023 + n.natAbs.log2 - sc) (mg n.natAbs - 4503599627370496)
theorem foi0 : floatOfInt .f64 0 = 0 := by decide +kernel
/-- FromFixed, from what Ldexp answers. -/
theorem ffx_c (n : Int) (sc X Y : Nat) (w : World) (hsc : sc ≤ 60) (hX : floatOfInt .f64 n = X) (L : Hid (∀ w, Calls Tryd.prog 16 #[.float .f64 X, .int .i64 (-(sc : Int))] w fun e w' => e = .returned (.float .f64 Y) ∧ w = w')) :
    Calls Tryd.prog 9 #[.int .i64 n, .int .i64 (sc : Nat)] w fun e w' => e = .returned (.tuple #[.int .u64 (Y : Nat), .int .i64 0]) ∧ w = w' := by
  have tb := to_bits Y
  have h1 : ¬ ((sc : Nat) : Int) < 0 := by omega
  have h2 : ¬ (60 : Int) < ((sc : Nat) : Int) := by omega
  go_enter Tryd.func9, Tryd.ntmps9
  go_wp2_with fail
  (with_reducible refine (L.out _).mono ?_); rintro e w1 ⟨rfl, rfl⟩
  go_wp2_with fail
  refine bodyPost_ret (v := .tuple #[.int .u64 (Y : Nat), .int .i64 0]) (by simp [results, Tryd.results9, go_sem]) rfl ?_
  exact ⟨rfl, rfl⟩
theorem ffx_w (n : Int) (sc : Nat) (w : World) (h1 : -9007199254740992 ≤ n) (h2 : n ≤ 9007199254740992) (hsc : sc ≤ 60) :
    Calls Tryd.prog 9 #[.int .i64 n, .int .i64 (sc : Nat)] w fun e w' => e = .returned (.tuple #[.int .u64 (fx n sc : Nat), .int .i64 0]) ∧ w = w' := by
  by_cases h0 : n = 0
  · subst h0
    have e : fx 0 sc = 0 := by unfold fx; rw [if_pos rfl]
    rw [e]
    exact ffx_c 0 sc 0 0 w hsc foi0 (Lib.hid fun w => ldx_0 _ w)
  · have e : fx n sc = wd (decide (n < 0)) (1023 + n.natAbs.log2 - sc) (mg n.natAbs - 4503599627370496) := by unfold fx; rw [if_neg h0]
    rw [e]
    obtain ⟨l1, -, -⟩ := log_bd (a := n.natAbs) (by omega) (by omega)
    obtain ⟨-, m2, m3⟩ := two_mg (a := n.natAbs) (by omega) (by omega)
    exact ffx_c n sc _ _ w hsc (foi h0 h1 h2) (Lib.hid fun w => ldx_w _ _ _ sc w (by omega) (by omega) (by omega) hsc)
/-- A scale that is none. -/
theorem ffx_bad (n sc : Int) (w : World) (h : sc < 0 ∨ 60 < sc) : Calls Tryd.prog 9 #[.int .i64 n, .int .i64 sc] w fun e w' => e = .returned (.tuple #[.int .u64 0, .int .i64 4]) ∧ w = w' := by
  rcases h with h | h
  · go_enter Tryd.func9, Tryd.ntmps9
    go_wp2_with fail
    refine bodyPost_ret (v := .tuple #[.int .u64 0, .int .i64 4]) (by simp [results, Tryd.results9, go_sem]) rfl ?_
    exact ⟨rfl, rfl⟩
  · have h1 : ¬ sc < 0 := by omega
    go_enter Tryd.func9, Tryd.ntmps9
    go_wp2_with fail
    refine bodyPost_ret (v := .tuple #[.int .u64 0, .int .i64 4]) (by simp [results, Tryd.results9, go_sem]) rfl ?_
    exact ⟨rfl, rfl⟩
end Fw
end Go.Proofs.YtoafljgcmloilaaDoor
