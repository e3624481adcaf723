/- bits.Text: what it returns. -/
import Derived.Test.YtoafljgcmloilaaDoorFtoZ
import Derived.Test.YtoafljgcmloilaaDoorTof
namespace Go.Proofs.YtoafljgcmloilaaDoor
open Go.RowKit
namespace Txt
open Kit Dec Tof
/-- The text: what is ahead of the point, and so many digits behind it. -/
def tx (wh pt : List Nat → ByteArray) (L : List Nat) (dd : Nat) : ByteArray := if dd = 0 then wh L else wh L ++ (⟨#[46]⟩ ++ (pt L).extract 0 dd)
set_option maxRecDepth 100000 in
set_option maxHeartbeats 8000000 in
theorem tx_pos (b X dd : Nat) (w : World) (R : List Nat → Prop) (wh pt : List Nat → ByteArray) (hb : b < 18446744073709551616) (hdd : dd ≤ 12) (hX : (bits .andNot .u64 ((b : Nat) : Int) 9223372036854775808).toNat = X) (hng : ((b : Int) / 9223372036854775808 == 1) = false) (he : ((ef b : Int) == 2047) = false)
    (hge : (FloatKind.f64.format.order X 4845873199050653696 == some .gt || FloatKind.f64.format.order X 4845873199050653696 == some .eq) = false)
    (FFC : Hid (∀ w', Below w.heap.size w w' → Calls Tryd.prog 25 #[.float .f64 X, .int .u8 102, .int .i64 1100, .int .i64 64] w' fun e w'' => (∃ L, e = .returned (.string (strB L)) ∧ R L) ∧ Below w'.heap.size w' w''))
    (CUT : Hid (∀ L w', R L → Below w.heap.size w w' → Calls Tryd.prog 19 #[.string (strB L), .string ⟨#[46]⟩] w' fun e w'' => e = .returned (.tuple #[.string (wh L), .string (pt L), .bool true]) ∧ Below w'.heap.size w' w''))
    (SZ : Hid (∀ L, R L → (wh L).size ≤ 100000 ∧ 12 ≤ (pt L).size ∧ (pt L).size ≤ 100000)) :
    Calls Tryd.prog 10 #[.int .u64 (b : Nat), .int .i64 (dd : Nat)] w fun e w' => (∃ L, R L ∧ e = .returned (.tuple #[.string (tx wh pt L dd), .int .i64 0])) ∧ Below w.heap.size w w' := by
  have EXP := Lib.hid (expo_w b hb w)
  have tb := to_bits b; have ob := of_bits ((b : Nat) : Int); have ox := fun w => of_bits (bits .andNot .u64 ((b : Nat) : Int) 9223372036854775808) w
  have hbt : ((b : Nat) : Int).toNat = b := by omega
  rw [hX] at ox
  have h0 : ¬ ((dd : Nat) : Int) < 0 := by omega
  have h12 : ¬ (12 : Int) < ((dd : Nat) : Int) := by omega
  have ABS : Hid (∀ w, Calls Tryd.prog 17 #[.float .f64 b] w fun e w' => e = .returned (.float .f64 X) ∧ w = w') := Lib.hid fun w => by
    clear EXP FFC CUT
    go_enter Tryd.func17, Tryd.ntmps17
    go_wp2_with fail
    go_ret
    exact ⟨rfl, rfl⟩
  have FPC : Hid (∀ w', Below w.heap.size w w' → Calls Tryd.prog 20 #[.float .f64 X, .int .u8 102, .int .i64 1100, .int .i64 64] w' fun e w'' => (∃ L, e = .returned (.string (strB L)) ∧ R L) ∧ Below w'.heap.size w' w'') := Lib.hid fun w' hb' => by
    have q := FFC.out w' hb'
    clear FFC CUT EXP
    go_enter Tryd.func20, Tryd.ntmps20
    go_wp2_with fail
    (with_reducible refine q.mono ?_); rintro e w1 ⟨⟨L, rfl, hl⟩, hb1⟩
    go_wp2_with fail
    go_ret
    exact ⟨⟨L, rfl, hl⟩, hb1⟩
  clear FFC hX
  go_enter Tryd.func10, Tryd.ntmps10
  go_wp2_with fail
  (with_reducible refine EXP.out.mono ?_); rintro e w1 ⟨rfl, rfl⟩
  go_wp2_with fail
  (with_reducible refine (ABS.out _).mono ?_); rintro e w1 ⟨rfl, rfl⟩
  go_wp2_with fail
  (with_reducible refine (FPC.out _ (Below.refl _ _)).mono ?_); rintro e w1 ⟨⟨L, rfl, hl⟩, hb1⟩
  have B1 := Lib.hid hb1
  have CL := Lib.hid (CUT.out L w1 hl hb1)
  obtain ⟨s1, s2, s3⟩ := SZ.out L hl
  have HR := Lib.hid hl
  clear hb1 hl CUT FPC SZ
  go_wp2_with fail
  (with_reducible refine CL.out.mono ?_); rintro e w2 ⟨rfl, hb2⟩
  have B2 := Lib.hid (b_next B1.out hb2)
  clear hb2 CL
  generalize hwh : wh L = W0 at *
  generalize hpt : pt L = P0 at *
  have HW := Lib.hid hwh; have HP := Lib.hid hpt
  clear hwh hpt
  rcases Nat.eq_zero_or_pos dd with hd | hd
  · subst hd
    go_wp2_with fail
    refine bodyPost_ret (v := .tuple #[.string (W0), .int .i64 0]) (by simp [results, Tryd.results10, go_sem]) rfl ⟨⟨L, HR.out, ?_⟩, B2.out⟩
    unfold tx; rw [if_pos rfl, HW.out]
  · have hd0 : (0 : Int) < ((dd : Nat) : Int) := by omega
    have hd1 : ((dd : Nat) : Int) ≤ (P0.size : Int) := by omega
    go_wp2_with fail
    refine bodyPost_ret (v := .tuple #[.string (W0 ++ (⟨#[46]⟩ ++ P0.extract 0 dd)), .int .i64 0]) (by simp [results, Tryd.results10, go_sem]) rfl ⟨⟨L, HR.out, ?_⟩, B2.out⟩
    unfold tx; rw [if_neg (by omega), HW.out, HP.out]
set_option maxRecDepth 100000 in
set_option maxHeartbeats 8000000 in
theorem tx_neg (b X dd : Nat) (w : World) (R : List Nat → Prop) (wh pt : List Nat → ByteArray) (hb : b < 18446744073709551616) (hdd : dd ≤ 12) (hd : 0 < dd) (hX : (bits .andNot .u64 ((b : Nat) : Int) 9223372036854775808).toNat = X) (hng : ((b : Int) / 9223372036854775808 == 1) = true) (he : ((ef b : Int) == 2047) = false)
    (hge : (FloatKind.f64.format.order X 4845873199050653696 == some .gt || FloatKind.f64.format.order X 4845873199050653696 == some .eq) = false)
    (FFC : Hid (∀ w', Below w.heap.size w w' → Calls Tryd.prog 25 #[.float .f64 X, .int .u8 102, .int .i64 1100, .int .i64 64] w' fun e w'' => (∃ L, e = .returned (.string (strB L)) ∧ R L) ∧ Below w'.heap.size w' w''))
    (CUT : Hid (∀ L w', R L → Below w.heap.size w w' → Calls Tryd.prog 19 #[.string (strB L), .string ⟨#[46]⟩] w' fun e w'' => e = .returned (.tuple #[.string (wh L), .string (pt L), .bool true]) ∧ Below w'.heap.size w' w''))
    (SZ : Hid (∀ L, R L → (wh L).size ≤ 100000 ∧ 12 ≤ (pt L).size ∧ (pt L).size ≤ 100000))
    (TRM : Hid (∀ L w', R L → Calls Tryd.prog 21 #[.string (tx wh pt L dd), .string ⟨#[48, 46]⟩] w' fun e w'' => (∃ t, e = .returned (.string t) ∧ t.toList.isEmpty = false) ∧ Below w'.heap.size w' w'')) :
    Calls Tryd.prog 10 #[.int .u64 (b : Nat), .int .i64 (dd : Nat)] w fun e w' => (∃ L, R L ∧ e = .returned (.tuple #[.string (⟨#[45]⟩ ++ tx wh pt L dd), .int .i64 0])) ∧ Below w.heap.size w w' := by
  have EXP := Lib.hid (expo_w b hb w)
  have tb := to_bits b; have ob := of_bits ((b : Nat) : Int); have ox := fun w => of_bits (bits .andNot .u64 ((b : Nat) : Int) 9223372036854775808) w
  have hbt : ((b : Nat) : Int).toNat = b := by omega
  rw [hX] at ox
  have h0 : ¬ ((dd : Nat) : Int) < 0 := by omega
  have h12 : ¬ (12 : Int) < ((dd : Nat) : Int) := by omega
  have ABS : Hid (∀ w, Calls Tryd.prog 17 #[.float .f64 b] w fun e w' => e = .returned (.float .f64 X) ∧ w = w') := Lib.hid fun w => by
    clear EXP FFC CUT
    go_enter Tryd.func17, Tryd.ntmps17
    go_wp2_with fail
    go_ret
    exact ⟨rfl, rfl⟩
  have FPC : Hid (∀ w', Below w.heap.size w w' → Calls Tryd.prog 20 #[.float .f64 X, .int .u8 102, .int .i64 1100, .int .i64 64] w' fun e w'' => (∃ L, e = .returned (.string (strB L)) ∧ R L) ∧ Below w'.heap.size w' w'') := Lib.hid fun w' hb' => by
    have q := FFC.out w' hb'
    clear FFC CUT EXP
    go_enter Tryd.func20, Tryd.ntmps20
    go_wp2_with fail
    (with_reducible refine q.mono ?_); rintro e w1 ⟨⟨L, rfl, hl⟩, hb1⟩
    go_wp2_with fail
    go_ret
    exact ⟨⟨L, rfl, hl⟩, hb1⟩
  clear FFC hX
  go_enter Tryd.func10, Tryd.ntmps10
  go_wp2_with fail
  (with_reducible refine EXP.out.mono ?_); rintro e w1 ⟨rfl, rfl⟩
  go_wp2_with fail
  (with_reducible refine (ABS.out _).mono ?_); rintro e w1 ⟨rfl, rfl⟩
  go_wp2_with fail
  (with_reducible refine (FPC.out _ (Below.refl _ _)).mono ?_); rintro e w1 ⟨⟨L, rfl, hl⟩, hb1⟩
  have B1 := Lib.hid hb1
  have CL := Lib.hid (CUT.out L w1 hl hb1)
  obtain ⟨s1, s2, s3⟩ := SZ.out L hl
  have HR := Lib.hid hl
  clear hb1 hl CUT FPC SZ
  go_wp2_with fail
  (with_reducible refine CL.out.mono ?_); rintro e w2 ⟨rfl, hb2⟩
  have B2 := Lib.hid (b_next B1.out hb2)
  clear hb2 CL
  generalize hwh : wh L = W0 at *
  generalize hpt : pt L = P0 at *
  have HW := Lib.hid hwh; have HP := Lib.hid hpt
  clear hwh hpt
  have hd0 : (0 : Int) < ((dd : Nat) : Int) := by omega
  have hd1 : ((dd : Nat) : Int) ≤ (P0.size : Int) := by omega
  have TT := Lib.hid (TRM.out L w2 HR.out)
  rw [show tx wh pt L dd = W0 ++ (⟨#[46]⟩ ++ P0.extract 0 dd) by unfold tx; rw [if_neg (by omega), HW.out, HP.out]] at TT
  go_wp2_with fail
  (with_reducible refine TT.out.mono ?_); rintro e w3 ⟨⟨t, rfl, ht⟩, hb3⟩
  have B3 := Lib.hid (b_next B2.out hb3)
  have ht1 : (!t.toList.isEmpty) = true := by rw [ht]; rfl
  clear hb3 TT
  go_wp2_with fail
  refine bodyPost_ret (v := .tuple #[.string (⟨#[45]⟩ ++ (W0 ++ (⟨#[46]⟩ ++ P0.extract 0 dd))), .int .i64 0]) (by simp [results, Tryd.results10, go_sem]) rfl ⟨⟨L, HR.out, ?_⟩, B3.out⟩
  unfold tx; rw [if_neg (by omega), HW.out, HP.out]

end Txt
end Go.Proofs.YtoafljgcmloilaaDoor
