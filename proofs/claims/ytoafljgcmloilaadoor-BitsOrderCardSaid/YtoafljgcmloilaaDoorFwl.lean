/- bits.Less: what it returns; at the doubles of whole numbers over one power of two. -/
import Derived.Test.YtoafljgcmloilaaDoorFwt
namespace Go.Proofs.YtoafljgcmloilaaDoor
open Go.RowKit
namespace Fw
open Tof Kit Dec
set_option maxRecDepth 100000 in
set_option maxHeartbeats 8000000 in
theorem less_w (X Y : Nat) (o : Bool) (w : World) (hX : X < 18446744073709551616) (hY : Y < 18446744073709551616) (eX : ((ef X : Int) == 2047) = false) (eY : ((ef Y : Int) == 2047) = false) (ho : (FloatKind.f64.format.order X Y == some .lt) = o) :
    Calls Tryd.prog 11 #[.int .u64 (X : Nat), .int .u64 (Y : Nat)] w fun e w' => e = .returned (.tuple #[.bool o, .int .i64 0]) ∧ Below w.heap.size w w' := by
  have E1 := Lib.hid fun w => expo_w X hX w
  have E2 := Lib.hid fun w => expo_w Y hY w
  have o1 : ∀ w, (callFunc 18 #[.int .u64 ((X : Nat) : Int)]).run Tryd.prog w = .ok (.value (.float .f64 X)) w := fun w => of_bits ((X : Nat) : Int) w
  have o2 : ∀ w, (callFunc 18 #[.int .u64 ((Y : Nat) : Int)]).run Tryd.prog w = .ok (.value (.float .f64 Y)) w := fun w => of_bits ((Y : Nat) : Int) w
  have c0 : (w.alloc (.cells #[.int .u64 (X : Nat), .int .u64 (Y : Nat)] 22)).cell? ⟨w.heap.size, 0, none⟩ = some (.int .u64 (X : Nat)) := by simp
  have c1 : (w.alloc (.cells #[.int .u64 (X : Nat), .int .u64 (Y : Nat)] 22)).cell? ⟨w.heap.size, 1, none⟩ = some (.int .u64 (Y : Nat)) := by simp
  go_enter Tryd.func11, Tryd.ntmps11
  go_wp2_with fail
  go_loopw [12] (fun s wr => ∃ k : Nat, k ≤ 2 ∧ s = .int .i64 k ∧ wr = w.alloc (.cells #[.int .u64 (X : Nat), .int .u64 (Y : Nat)] 22)) (fun s _ => 2 - (intOf s).toNat)
  case atStart => exact ⟨0, by omega, rfl, rfl⟩
  case round =>
    obtain ⟨k, hk, rfl, rfl⟩ := hrel
    have hk3 : k = 0 ∨ k = 1 ∨ k = 2 := by omega
    clear hk
    rcases hk3 with rfl | rfl | rfl
    · go_wp2_with fail
      (with_reducible refine (E1.out _).mono ?_); rintro e w1 ⟨rfl, rfl⟩
      go_wp2_with fail
      go_roundw
      case rel => exact ⟨1, by omega, rfl, trivial⟩
      case measure => simp [intOf]
    · go_wp2_with fail
      (with_reducible refine (E2.out _).mono ?_); rintro e w1 ⟨rfl, rfl⟩
      go_wp2_with fail
      go_roundw
      case rel => exact ⟨2, by omega, rfl, trivial⟩
      case measure => simp [intOf]
    · go_wp2_with fail
      refine bodyPost_ret (v := .tuple #[.bool o, .int .i64 0]) (by simp [results, Tryd.results11, go_sem]) rfl ?_
      exact ⟨rfl, b_alloc (Below.refl _ _) _⟩
theorem cmp_dec (x y : Int) : (some (compare x y) == some Ordering.lt) = decide (x < y) := by
  by_cases h : x < y
  · rw [cmp_lt h, decide_eq_true h]; rfl
  · rw [decide_eq_false h]
    by_cases e : x = y
    · rw [cmp_eq e]; rfl
    · rw [cmp_gt (by omega)]; rfl
theorem sgn_abs (n : Int) : sgn (decide (n < 0)) n.natAbs = n := by
  unfold sgn
  by_cases h : n < 0
  · rw [decide_eq_true h]; simp only [if_true]; omega
  · rw [decide_eq_false h]; simp only [Bool.false_eq_true, if_false]; omega
theorem sgn_mul (s : Bool) (A a c : Nat) (h : 2 * A = a * c) : 2 * sgn s A = sgn s a * (c : Int) := by
  have h' : 2 * (A : Int) = (a : Int) * (c : Int) := by rw [← Int.natCast_mul, ← h]; omega
  unfold sgn
  cases s
  · simp only [Bool.false_eq_true, if_false]; exact h'
  · simp only [if_true]; rw [Int.neg_mul]; omega
theorem ord_fx {n m : Int} {sc : Nat} (a1 : -9007199254740992 ≤ n) (a2 : n ≤ 9007199254740992) (b1 : -9007199254740992 ≤ m) (b2 : m ≤ 9007199254740992) (hsc : sc ≤ 60) :
    (FloatKind.f64.format.order (fx n sc) (fx m sc) == some .lt) = decide (n < m) := by
  by_cases hn : n = 0
  · have en : fx n sc = 0 := by unfold fx; rw [if_pos hn]
    by_cases hm : m = 0
    · have em : fx m sc = 0 := by unfold fx; rw [if_pos hm]
      rw [en, em, decide_eq_false (by omega)]
      decide +kernel
    · obtain ⟨E, M, e, -, hE, hM, hl⟩ := fx_range (sc := sc) hm b1 b2
      rw [en, e, ord_zero' (by omega) (by omega) hM]
      by_cases h : m < 0
      · rw [decide_eq_true h, decide_eq_false (by omega)]; rfl
      · rw [decide_eq_false h, decide_eq_true (by omega)]; rfl
  · obtain ⟨E, M, e, hm1, hE, hM, hl⟩ := fx_range (sc := sc) hn a1 a2
    by_cases hm : m = 0
    · have em : fx m sc = 0 := by unfold fx; rw [if_pos hm]
      rw [em, e, ord_zero (by omega) (by omega) hM]
      by_cases h : n < 0
      · rw [decide_eq_true h, decide_eq_true (by omega)]; rfl
      · rw [decide_eq_false h, decide_eq_false (by omega)]; rfl
    · obtain ⟨F, N, f, hm2, hF, hN, hk⟩ := fx_range (sc := sc) hm b1 b2
      rw [e, f, ord_def, read_wd (by omega) (by omega) hM, read_wd (by omega) (by omega) hN, ord_num, cmp_dec, hm1, hm2]
      have t1 := (two_mg (a := n.natAbs) (by omega) (by omega)).1
      have t2 := (two_mg (a := m.natAbs) (by omega) (by omega)).1
      have z1 := sgn_abs n
      have z2 := sgn_abs m
      generalize decide (n < 0) = s at *
      generalize decide (m < 0) = t at *
      generalize n.natAbs = a at *
      generalize m.natAbs = b at *
      have p1 : ((E : Int) - 1075 - min ((E : Int) - 1075) ((F : Int) - 1075)).toNat = a.log2 - min a.log2 b.log2 := by omega
      have p2 : ((F : Int) - 1075 - min ((E : Int) - 1075) ((F : Int) - 1075)).toNat = b.log2 - min a.log2 b.log2 := by omega
      rw [p1, p2]
      have c1 : 2 * (mg a * 2 ^ (a.log2 - min a.log2 b.log2)) = a * 2 ^ (53 - min a.log2 b.log2) := by
        rw [← Nat.mul_assoc, t1, Nat.mul_assoc, ← Nat.pow_add]; congr 2; omega
      have c2 : 2 * (mg b * 2 ^ (b.log2 - min a.log2 b.log2)) = b * 2 ^ (53 - min a.log2 b.log2) := by
        rw [← Nat.mul_assoc, t2, Nat.mul_assoc, ← Nat.pow_add]; congr 2; omega
      have q1 := sgn_mul s _ _ _ c1
      have q2 := sgn_mul t _ _ _ c2
      rw [z1] at q1
      rw [z2] at q2
      have cp : (0 : Int) < ((2 ^ (53 - min a.log2 b.log2) : Nat) : Int) := by have := Nat.two_pow_pos (53 - min a.log2 b.log2); omega
      generalize ((2 ^ (53 - min a.log2 b.log2) : Nat) : Int) = c at *
      have k := Int.mul_lt_mul_right (a := c) (b := n) (c := m) cp
      refine decide_eq_decide.2 (Iff.trans ?_ k)
      rw [← q1, ← q2]
      omega
theorem ef_fx {n : Int} {sc : Nat} (h1 : -9007199254740992 ≤ n) (h2 : n ≤ 9007199254740992) : ((ef (fx n sc) : Int) == 2047) = false := by
  by_cases h0 : n = 0
  · unfold fx; rw [if_pos h0]; decide
  · obtain ⟨E, M, e, -, hE, hM, hl⟩ := fx_range (sc := sc) h0 h1 h2
    rw [e, ef_wd (by omega) hM]
    exact beq_eq_false_iff_ne.2 (by omega)
end Fw
end Go.Proofs.YtoafljgcmloilaaDoor
