/- Joined texts: SinW, AngS. -/
import Derived.Test.YtkapllakofndlaaDoorM10
import Derived.Test.YtkapllakofndlaaDoorM02
import Derived.Test.YtkapllakofndlaaDoorM01
import Derived.Laws.Externs
namespace Go.Proofs.YtkapllakofndlaaDoor
open Go.RowKit
namespace Ang
theorem tmod_pm (h : Int) : h.tmod 4096 = h % 4096 ∨ (h.tmod 4096 = h % 4096 - 4096) := by
  rcases (show 0 ≤ h ∨ h < 0 by omega) with h0 | h0
  · exact Or.inl (Int.tmod_eq_emod_of_nonneg h0)
  · have e : h.tmod 4096 = -((-h) % 4096) := by
      rw [← Int.tmod_eq_emod_of_nonneg (show 0 ≤ -h by omega), Int.neg_tmod, Int.neg_neg]
    rw [e]; omega
theorem norm_eq (h : Int) : (wrap64 (h.tmod 4096 + 4096)).tmod 4096 = h % 4096 := by
  have hb : -4096 ≤ h.tmod 4096 ∧ h.tmod 4096 < 4096 := by rcases tmod_pm h with e | e <;> rw [e] <;> omega
  have hp : 0 ≤ h.tmod 4096 + 4096 := by omega
  rw [IntWalk.wrap64_in _ (by omega), Int.tmod_eq_emod_of_nonneg hp]
  rcases tmod_pm h with e | e <;> rw [e] <;> omega
theorem norm_w (h : Int) (w : World) : Calls Tryd.prog 16 #[.int .i64 h] w fun e w' => e = .returned (.int .i64 (h % 4096)) ∧ w = w' := by
  go_enter Tryd.func16, Tryd.ntmps16
  go_wp2
  go_ret
  exact ⟨Kit.ret1 (norm_eq h), rfl⟩
theorem to_bits (b : Nat) (w : World) : (callFunc 64 #[.float .f64 b]).run Tryd.prog w = .ok (.value (.int .u64 b)) w := by
  rw [run_callFunc_extern (e := Extern.MathFloatBits.float64bits) Tryd.func64 (by kernel_rfl) (by kernel_rfl) (by kernel_rfl) (by kernel_rfl)]
  rfl
theorem of_bits (n : Int) (w : World) : (callFunc 65 #[.int .u64 n]).run Tryd.prog w = .ok (.value (.float .f64 n.toNat)) w := by
  rw [run_callFunc_extern (e := Extern.MathFloatBits.float64frombits) Tryd.func65 (by kernel_rfl) (by kernel_rfl) (by kernel_rfl) (by kernel_rfl)]
  rfl
/-- math.Round, on bits. -/
def roundB (b : Nat) : Nat :=
  if bits .and .u64 ((b : Int) / 4503599627370496) 2047 < 1023 then
    (if (bits .and .u64 ((b : Int) / 4503599627370496) 2047 == 1022) = true then (bits .or .u64 (bits .and .u64 (b : Int) 9223372036854775808) 4607182418800017408).toNat else (bits .and .u64 (b : Int) 9223372036854775808).toNat)
  else if bits .and .u64 ((b : Int) / 4503599627370496) 2047 < 1075 then
    (bits .andNot .u64 (IntKind.u64.wrap ((b : Int) + 2251799813685248 / 2 ^ (bits .and .u64 ((b : Int) / 4503599627370496) 2047 - 1023).toNat)) (4503599627370495 / 2 ^ (bits .and .u64 ((b : Int) / 4503599627370496) 2047 - 1023).toNat)).toNat
  else b
theorem retf {a c : Nat} (h : a = c) : Ending.returned (.float .f64 a) = .returned (.float .f64 c) := by rw [h]
set_option maxRecDepth 100000 in
set_option maxHeartbeats 400000 in
theorem round_w (b : Nat) (w : World) : Calls Tryd.prog 30 #[.float .f64 b] w fun e w' => e = .returned (.float .f64 (roundB b)) ∧ w = w' := by
  have tb := to_bits; have ob := of_bits
  obtain ⟨R, hR⟩ : ∃ R, R = roundB b := ⟨_, rfl⟩
  rw [← hR]
  unfold roundB at hR
  obtain ⟨e, he⟩ : ∃ e, bits .and .u64 ((b : Int) / 4503599627370496) 2047 = e := ⟨_, rfl⟩
  rw [he] at hR
  by_cases h1 : e < 1023
  · rw [if_pos h1] at hR
    cases h2 : (e == 1022) with
    | true =>
      rw [if_pos h2] at hR
      have HR := Lib.hid hR; clear hR
      go_enter Tryd.func30, Tryd.ntmps30
      go_wp2
      go_ret
      exact ⟨retf HR.out.symm, rfl⟩
    | false =>
      rw [if_neg (by rw [h2]; decide)] at hR
      have HR := Lib.hid hR; clear hR
      go_enter Tryd.func30, Tryd.ntmps30
      go_wp2
      go_ret
      exact ⟨retf HR.out.symm, rfl⟩
  · rw [if_neg h1] at hR
    by_cases h2 : e < 1075
    · rw [if_pos h2] at hR
      have HR := Lib.hid hR; clear hR
      go_enter Tryd.func30, Tryd.ntmps30
      go_wp2
      go_ret
      exact ⟨retf HR.out.symm, rfl⟩
    · rw [if_neg h2] at hR
      have HR := Lib.hid hR; clear hR
      go_enter Tryd.func30, Tryd.ntmps30
      go_wp2
      go_ret
      exact ⟨retf (by rw [HR.out]), rfl⟩
set_option maxRecDepth 100000 in
theorem abs_w (b : Nat) (w : World) : Calls Tryd.prog 105 #[.float .f64 b] w fun e w' => e = .returned (.float .f64 (bits .andNot .u64 (b : Int) 9223372036854775808).toNat) ∧ w = w' := by
  have tb := to_bits; have ob := of_bits
  go_enter Tryd.func105, Tryd.ntmps105
  go_wp2
  go_ret
  exact ⟨by first | rfl | trivial, rfl⟩
theorem nan_w (b : Nat) (w : World) (h : (FloatKind.f64.format.order b b != some .eq) = false) : Calls Tryd.prog 90 #[.float .f64 b] w fun e w' => e = .returned (.bool false) ∧ w = w' := by
  go_enter Tryd.func90, Tryd.ntmps90
  go_wp2
  go_ret
  exact ⟨by first | rfl | trivial, rfl⟩
theorem inf_w (b : Nat) (w : World) (h : (FloatKind.f64.format.order (bits .andNot .u64 (b : Int) 9223372036854775808).toNat 9218868437227405311 == some .gt) = false) : Calls Tryd.prog 91 #[.float .f64 b, .int .i64 0] w fun e w' => e = .returned (.bool false) ∧ w = w' := by
  go_enter Tryd.func91, Tryd.ntmps91
  go_wp2_with fail
  (with_reducible refine (abs_w b _).mono ?_); rintro e w1 ⟨rfl, rfl⟩
  generalize (bits .andNot .u64 (b : Int) 9223372036854775808).toNat = a at *
  go_wp2_with fail
  go_ret
  exact ⟨by first | rfl | trivial, rfl⟩
abbrev Ar (op : BinOp) (x y r : Nat) : Prop := floatBits op .f64 x y = some r
theorem ar_run {op : BinOp} {x y r : Nat} (h : Ar op x y r) : ∀ (t : TypeId) (w : World), (binOp op t (.float .f64 x) (.float .f64 y)).run Tryd.prog w = .ok (.float .f64 r) w := fun t w => run_float_arith w op t .f64 x y r h
theorem neg_run {P : Program} (b : Nat) (w : World) : (Op.unary .neg (.float .f64 b)).run P w = .ok (.float .f64 (Op.negFloat .f64 b)) w := rfl
/-- What math.sin asks of its argument. -/
structure Fine (x : Nat) : Prop where
  n0 : (FloatKind.f64.format.order x 0 == some .eq) = false
  nn : (FloatKind.f64.format.order x x != some .eq) = false
  ni : (FloatKind.f64.format.order (bits .andNot .u64 (x : Int) 9223372036854775808).toNat 9218868437227405311 == some .gt) = false
  pos : (FloatKind.f64.format.order x 0 == some .lt) = false
  lo1 : (FloatKind.f64.format.order x 4737786807993761792 == some .gt) = false
  lo2 : (FloatKind.f64.format.order x 4737786807993761792 == some .eq) = false
/-- The tables of math.sin. -/
structure Tabs (w : World) : Prop where
  c0 : w.cell? ⟨1, 0, none⟩ = some (.float .f64 13666448263388469915)
  c1 : w.cell? ⟨1, 1, none⟩ = some (.float .f64 4477121864728985349)
  c2 : w.cell? ⟨1, 2, none⟩ = some (.float .f64 13732177093698800582)
  c3 : w.cell? ⟨1, 3, none⟩ = some (.float .f64 4537941361668146421)
  c4 : w.cell? ⟨1, 4, none⟩ = some (.float .f64 13787419979223748497)
  c5 : w.cell? ⟨1, 5, none⟩ = some (.float .f64 4586165620538955083)
  s0 : w.cell? ⟨2, 0, none⟩ = some (.float .f64 4460209587652500685)
  s1 : w.cell? ⟨2, 1, none⟩ = some (.float .f64 13716528389658582877)
  s2 : w.cell? ⟨2, 2, none⟩ = some (.float .f64 4523617212962785441)
  s3 : w.cell? ⟨2, 3, none⟩ = some (.float .f64 13774824197404483331)
  s4 : w.cell? ⟨2, 4, none⟩ = some (.float .f64 4575957461383575504)
  s5 : w.cell? ⟨2, 5, none⟩ = some (.float .f64 13818544856648471880)
set_option maxRecDepth 100000 in
set_option maxHeartbeats 1000000 in
theorem sin_0 (x m p1 d1 p2 d2 p3 z zz z2 a1 b1 a2 b2 a3 b3 a4 b4 a5 b5 q v : Nat) (w : World) (F : Fine x) (T : Tabs w) (J : floatToIntVal .f64 m .u64 = some 0) (A0 : Ar .mul x 4608412980311869571 m) (A1 : Ar .mul 0 4605249456957292544 p1) (A2 : Ar .sub x p1 d1) (A3 : Ar .mul 0 4495793288086814720 p2) (A4 : Ar .sub d1 p2 d2) (A5 : Ar .mul 0 4388835458085048688 p3) (A6 : Ar .sub d2 p3 z) (A7 : Ar .mul z z zz) (A8 : Ar .mul z zz z2) (A9 : Ar .mul 4460209587652500685 zz a1) (A10 : Ar .add a1 13716528389658582877 b1) (A11 : Ar .mul b1 zz a2) (A12 : Ar .add a2 4523617212962785441 b2) (A13 : Ar .mul b2 zz a3) (A14 : Ar .add a3 13774824197404483331 b3) (A15 : Ar .mul b3 zz a4) (A16 : Ar .add a4 4575957461383575504 b4) (A17 : Ar .mul b4 zz a5) (A18 : Ar .add a5 13818544856648471880 b5) (A19 : Ar .mul z2 b5 q) (A20 : Ar .add z q v) :
    Calls Tryd.prog 67 #[.float .f64 x] w fun e w' => e = .returned (.float .f64 (v)) ∧ w = w' := by
  obtain ⟨f0, fn, fi, fp, f1, f2⟩ := F
  have FN := Lib.hid fn; have FI := Lib.hid fi; clear fn fi
  obtain ⟨c0, c1, c2, c3, c4, c5, s0, s1, s2, s3, s4, s5⟩ := T
  have r0 := ar_run A0
  have r1 := ar_run A1
  have r2 := ar_run A2
  have r3 := ar_run A3
  have r4 := ar_run A4
  have r5 := ar_run A5
  have r6 := ar_run A6
  have r7 := ar_run A7
  have r8 := ar_run A8
  have r9 := ar_run A9
  have r10 := ar_run A10
  have r11 := ar_run A11
  have r12 := ar_run A12
  have r13 := ar_run A13
  have r14 := ar_run A14
  have r15 := ar_run A15
  have r16 := ar_run A16
  have r17 := ar_run A17
  have r18 := ar_run A18
  have r19 := ar_run A19
  have r20 := ar_run A20
  have rj : ∀ w, (convert 69 104 (.float .f64 m)).run Tryd.prog w = .ok (.int .u64 0) w := fun w => run_convert_float_int w _ _ .f64 .u64 m 0 (by rw [Tryd.underlying69]; rfl) Tryd.underlying104 J
  have rk : ∀ w, (convert 104 69 (.int .u64 0)).run Tryd.prog w = .ok (.float .f64 0) w := fun w => run_convert_int_float w _ _ .u64 .f64 0 (by rw [Tryd.underlying104]; rfl) Tryd.underlying69
  have rn := neg_run (P := Tryd.prog)
  clear A0 A1 A2 A3 A4 A5 A6 A7 A8 A9 A10 A11 A12 A13 A14 A15 A16 A17 A18 A19 A20 J
  go_enter Tryd.func67, Tryd.ntmps67
  go_wp2_with fail
  (with_reducible refine (nan_w x _ FN.out).mono ?_); rintro e w1 ⟨rfl, rfl⟩
  go_wp2_with fail
  (with_reducible refine (inf_w x _ FI.out).mono ?_); rintro e w1 ⟨rfl, rfl⟩
  go_wp2_with fail
  go_ret
  exact ⟨by first | rfl | trivial, rfl⟩
set_option maxRecDepth 100000 in
set_option maxHeartbeats 1000000 in
theorem sin_1 (x m p1 d1 p2 d2 p3 z zz h1 h2 z2 a1 b1 a2 b2 a3 b3 a4 b4 a5 b5 q v : Nat) (w : World) (F : Fine x) (T : Tabs w) (J : floatToIntVal .f64 m .u64 = some 1) (A0 : Ar .mul x 4608412980311869571 m) (A1 : Ar .mul 4611686018427387904 4605249456957292544 p1) (A2 : Ar .sub x p1 d1) (A3 : Ar .mul 4611686018427387904 4495793288086814720 p2) (A4 : Ar .sub d1 p2 d2) (A5 : Ar .mul 4611686018427387904 4388835458085048688 p3) (A6 : Ar .sub d2 p3 z) (A7 : Ar .mul z z zz) (A8 : Ar .mul 4602678819172646912 zz h1) (A9 : Ar .sub 4607182418800017408 h1 h2) (A10 : Ar .mul zz zz z2) (A11 : Ar .mul 13666448263388469915 zz a1) (A12 : Ar .add a1 4477121864728985349 b1) (A13 : Ar .mul b1 zz a2) (A14 : Ar .add a2 13732177093698800582 b2) (A15 : Ar .mul b2 zz a3) (A16 : Ar .add a3 4537941361668146421 b3) (A17 : Ar .mul b3 zz a4) (A18 : Ar .add a4 13787419979223748497 b4) (A19 : Ar .mul b4 zz a5) (A20 : Ar .add a5 4586165620538955083 b5) (A21 : Ar .mul z2 b5 q) (A22 : Ar .add h2 q v) :
    Calls Tryd.prog 67 #[.float .f64 x] w fun e w' => e = .returned (.float .f64 (v)) ∧ w = w' := by
  obtain ⟨f0, fn, fi, fp, f1, f2⟩ := F
  have FN := Lib.hid fn; have FI := Lib.hid fi; clear fn fi
  obtain ⟨c0, c1, c2, c3, c4, c5, s0, s1, s2, s3, s4, s5⟩ := T
  have r0 := ar_run A0
  have r1 := ar_run A1
  have r2 := ar_run A2
  have r3 := ar_run A3
  have r4 := ar_run A4
  have r5 := ar_run A5
  have r6 := ar_run A6
  have r7 := ar_run A7
  have r8 := ar_run A8
  have r9 := ar_run A9
  have r10 := ar_run A10
  have r11 := ar_run A11
  have r12 := ar_run A12
  have r13 := ar_run A13
  have r14 := ar_run A14
  have r15 := ar_run A15
  have r16 := ar_run A16
  have r17 := ar_run A17
  have r18 := ar_run A18
  have r19 := ar_run A19
  have r20 := ar_run A20
  have r21 := ar_run A21
  have r22 := ar_run A22
  have ry := ar_run (show Ar .add 4607182418800017408 4607182418800017408 4611686018427387904 by unfold Ar; kernel_rfl)
  have rj : ∀ w, (convert 69 104 (.float .f64 m)).run Tryd.prog w = .ok (.int .u64 1) w := fun w => run_convert_float_int w _ _ .f64 .u64 m 1 (by rw [Tryd.underlying69]; rfl) Tryd.underlying104 J
  have rk : ∀ w, (convert 104 69 (.int .u64 1)).run Tryd.prog w = .ok (.float .f64 4607182418800017408) w := fun w => run_convert_int_float w _ _ .u64 .f64 1 (by rw [Tryd.underlying104]; rfl) Tryd.underlying69
  have rn := neg_run (P := Tryd.prog)
  clear A0 A1 A2 A3 A4 A5 A6 A7 A8 A9 A10 A11 A12 A13 A14 A15 A16 A17 A18 A19 A20 A21 A22 J
  go_enter Tryd.func67, Tryd.ntmps67
  go_wp2_with fail
  (with_reducible refine (nan_w x _ FN.out).mono ?_); rintro e w1 ⟨rfl, rfl⟩
  go_wp2_with fail
  (with_reducible refine (inf_w x _ FI.out).mono ?_); rintro e w1 ⟨rfl, rfl⟩
  go_wp2_with fail
  go_ret
  exact ⟨by first | rfl | trivial, rfl⟩
set_option maxRecDepth 100000 in
set_option maxHeartbeats 1000000 in
theorem sin_2 (x m p1 d1 p2 d2 p3 z zz h1 h2 z2 a1 b1 a2 b2 a3 b3 a4 b4 a5 b5 q v : Nat) (w : World) (F : Fine x) (T : Tabs w) (J : floatToIntVal .f64 m .u64 = some 2) (A0 : Ar .mul x 4608412980311869571 m) (A1 : Ar .mul 4611686018427387904 4605249456957292544 p1) (A2 : Ar .sub x p1 d1) (A3 : Ar .mul 4611686018427387904 4495793288086814720 p2) (A4 : Ar .sub d1 p2 d2) (A5 : Ar .mul 4611686018427387904 4388835458085048688 p3) (A6 : Ar .sub d2 p3 z) (A7 : Ar .mul z z zz) (A8 : Ar .mul 4602678819172646912 zz h1) (A9 : Ar .sub 4607182418800017408 h1 h2) (A10 : Ar .mul zz zz z2) (A11 : Ar .mul 13666448263388469915 zz a1) (A12 : Ar .add a1 4477121864728985349 b1) (A13 : Ar .mul b1 zz a2) (A14 : Ar .add a2 13732177093698800582 b2) (A15 : Ar .mul b2 zz a3) (A16 : Ar .add a3 4537941361668146421 b3) (A17 : Ar .mul b3 zz a4) (A18 : Ar .add a4 13787419979223748497 b4) (A19 : Ar .mul b4 zz a5) (A20 : Ar .add a5 4586165620538955083 b5) (A21 : Ar .mul z2 b5 q) (A22 : Ar .add h2 q v) :
    Calls Tryd.prog 67 #[.float .f64 x] w fun e w' => e = .returned (.float .f64 (v)) ∧ w = w' := by
  obtain ⟨f0, fn, fi, fp, f1, f2⟩ := F
  have FN := Lib.hid fn; have FI := Lib.hid fi; clear fn fi
  obtain ⟨c0, c1, c2, c3, c4, c5, s0, s1, s2, s3, s4, s5⟩ := T
  have r0 := ar_run A0
  have r1 := ar_run A1
  have r2 := ar_run A2
  have r3 := ar_run A3
  have r4 := ar_run A4
  have r5 := ar_run A5
  have r6 := ar_run A6
  have r7 := ar_run A7
  have r8 := ar_run A8
  have r9 := ar_run A9
  have r10 := ar_run A10
  have r11 := ar_run A11
  have r12 := ar_run A12
  have r13 := ar_run A13
  have r14 := ar_run A14
  have r15 := ar_run A15
  have r16 := ar_run A16
  have r17 := ar_run A17
  have r18 := ar_run A18
  have r19 := ar_run A19
  have r20 := ar_run A20
  have r21 := ar_run A21
  have r22 := ar_run A22
  have rj : ∀ w, (convert 69 104 (.float .f64 m)).run Tryd.prog w = .ok (.int .u64 2) w := fun w => run_convert_float_int w _ _ .f64 .u64 m 2 (by rw [Tryd.underlying69]; rfl) Tryd.underlying104 J
  have rk : ∀ w, (convert 104 69 (.int .u64 2)).run Tryd.prog w = .ok (.float .f64 4611686018427387904) w := fun w => run_convert_int_float w _ _ .u64 .f64 2 (by rw [Tryd.underlying104]; rfl) Tryd.underlying69
  have rn := neg_run (P := Tryd.prog)
  clear A0 A1 A2 A3 A4 A5 A6 A7 A8 A9 A10 A11 A12 A13 A14 A15 A16 A17 A18 A19 A20 A21 A22 J
  go_enter Tryd.func67, Tryd.ntmps67
  go_wp2_with fail
  (with_reducible refine (nan_w x _ FN.out).mono ?_); rintro e w1 ⟨rfl, rfl⟩
  go_wp2_with fail
  (with_reducible refine (inf_w x _ FI.out).mono ?_); rintro e w1 ⟨rfl, rfl⟩
  go_wp2_with fail
  go_ret
  exact ⟨by first | rfl | trivial, rfl⟩
set_option maxRecDepth 100000 in
set_option maxHeartbeats 1000000 in
theorem sin_3 (x m p1 d1 p2 d2 p3 z zz z2 a1 b1 a2 b2 a3 b3 a4 b4 a5 b5 q v : Nat) (w : World) (F : Fine x) (T : Tabs w) (J : floatToIntVal .f64 m .u64 = some 3) (A0 : Ar .mul x 4608412980311869571 m) (A1 : Ar .mul 4616189618054758400 4605249456957292544 p1) (A2 : Ar .sub x p1 d1) (A3 : Ar .mul 4616189618054758400 4495793288086814720 p2) (A4 : Ar .sub d1 p2 d2) (A5 : Ar .mul 4616189618054758400 4388835458085048688 p3) (A6 : Ar .sub d2 p3 z) (A7 : Ar .mul z z zz) (A8 : Ar .mul z zz z2) (A9 : Ar .mul 4460209587652500685 zz a1) (A10 : Ar .add a1 13716528389658582877 b1) (A11 : Ar .mul b1 zz a2) (A12 : Ar .add a2 4523617212962785441 b2) (A13 : Ar .mul b2 zz a3) (A14 : Ar .add a3 13774824197404483331 b3) (A15 : Ar .mul b3 zz a4) (A16 : Ar .add a4 4575957461383575504 b4) (A17 : Ar .mul b4 zz a5) (A18 : Ar .add a5 13818544856648471880 b5) (A19 : Ar .mul z2 b5 q) (A20 : Ar .add z q v) :
    Calls Tryd.prog 67 #[.float .f64 x] w fun e w' => e = .returned (.float .f64 (Op.negFloat .f64 v)) ∧ w = w' := by
  obtain ⟨f0, fn, fi, fp, f1, f2⟩ := F
  have FN := Lib.hid fn; have FI := Lib.hid fi; clear fn fi
  obtain ⟨c0, c1, c2, c3, c4, c5, s0, s1, s2, s3, s4, s5⟩ := T
  have r0 := ar_run A0
  have r1 := ar_run A1
  have r2 := ar_run A2
  have r3 := ar_run A3
  have r4 := ar_run A4
  have r5 := ar_run A5
  have r6 := ar_run A6
  have r7 := ar_run A7
  have r8 := ar_run A8
  have r9 := ar_run A9
  have r10 := ar_run A10
  have r11 := ar_run A11
  have r12 := ar_run A12
  have r13 := ar_run A13
  have r14 := ar_run A14
  have r15 := ar_run A15
  have r16 := ar_run A16
  have r17 := ar_run A17
  have r18 := ar_run A18
  have r19 := ar_run A19
  have r20 := ar_run A20
  have ry := ar_run (show Ar .add 4613937818241073152 4607182418800017408 4616189618054758400 by unfold Ar; kernel_rfl)
  have rj : ∀ w, (convert 69 104 (.float .f64 m)).run Tryd.prog w = .ok (.int .u64 3) w := fun w => run_convert_float_int w _ _ .f64 .u64 m 3 (by rw [Tryd.underlying69]; rfl) Tryd.underlying104 J
  have rk : ∀ w, (convert 104 69 (.int .u64 3)).run Tryd.prog w = .ok (.float .f64 4613937818241073152) w := fun w => run_convert_int_float w _ _ .u64 .f64 3 (by rw [Tryd.underlying104]; rfl) Tryd.underlying69
  have rn := neg_run (P := Tryd.prog)
  clear A0 A1 A2 A3 A4 A5 A6 A7 A8 A9 A10 A11 A12 A13 A14 A15 A16 A17 A18 A19 A20 J
  go_enter Tryd.func67, Tryd.ntmps67
  go_wp2_with fail
  (with_reducible refine (nan_w x _ FN.out).mono ?_); rintro e w1 ⟨rfl, rfl⟩
  go_wp2_with fail
  (with_reducible refine (inf_w x _ FI.out).mono ?_); rintro e w1 ⟨rfl, rfl⟩
  go_wp2_with fail
  go_ret
  exact ⟨by first | rfl | trivial, rfl⟩
set_option maxRecDepth 100000 in
set_option maxHeartbeats 1000000 in
theorem sin_4 (x m p1 d1 p2 d2 p3 z zz z2 a1 b1 a2 b2 a3 b3 a4 b4 a5 b5 q v : Nat) (w : World) (F : Fine x) (T : Tabs w) (J : floatToIntVal .f64 m .u64 = some 4) (A0 : Ar .mul x 4608412980311869571 m) (A1 : Ar .mul 4616189618054758400 4605249456957292544 p1) (A2 : Ar .sub x p1 d1) (A3 : Ar .mul 4616189618054758400 4495793288086814720 p2) (A4 : Ar .sub d1 p2 d2) (A5 : Ar .mul 4616189618054758400 4388835458085048688 p3) (A6 : Ar .sub d2 p3 z) (A7 : Ar .mul z z zz) (A8 : Ar .mul z zz z2) (A9 : Ar .mul 4460209587652500685 zz a1) (A10 : Ar .add a1 13716528389658582877 b1) (A11 : Ar .mul b1 zz a2) (A12 : Ar .add a2 4523617212962785441 b2) (A13 : Ar .mul b2 zz a3) (A14 : Ar .add a3 13774824197404483331 b3) (A15 : Ar .mul b3 zz a4) (A16 : Ar .add a4 4575957461383575504 b4) (A17 : Ar .mul b4 zz a5) (A18 : Ar .add a5 13818544856648471880 b5) (A19 : Ar .mul z2 b5 q) (A20 : Ar .add z q v) :
    Calls Tryd.prog 67 #[.float .f64 x] w fun e w' => e = .returned (.float .f64 (Op.negFloat .f64 v)) ∧ w = w' := by
  obtain ⟨f0, fn, fi, fp, f1, f2⟩ := F
  have FN := Lib.hid fn; have FI := Lib.hid fi; clear fn fi
  obtain ⟨c0, c1, c2, c3, c4, c5, s0, s1, s2, s3, s4, s5⟩ := T
  have r0 := ar_run A0
  have r1 := ar_run A1
  have r2 := ar_run A2
  have r3 := ar_run A3
  have r4 := ar_run A4
  have r5 := ar_run A5
  have r6 := ar_run A6
  have r7 := ar_run A7
  have r8 := ar_run A8
  have r9 := ar_run A9
  have r10 := ar_run A10
  have r11 := ar_run A11
  have r12 := ar_run A12
  have r13 := ar_run A13
  have r14 := ar_run A14
  have r15 := ar_run A15
  have r16 := ar_run A16
  have r17 := ar_run A17
  have r18 := ar_run A18
  have r19 := ar_run A19
  have r20 := ar_run A20
  have rj : ∀ w, (convert 69 104 (.float .f64 m)).run Tryd.prog w = .ok (.int .u64 4) w := fun w => run_convert_float_int w _ _ .f64 .u64 m 4 (by rw [Tryd.underlying69]; rfl) Tryd.underlying104 J
  have rk : ∀ w, (convert 104 69 (.int .u64 4)).run Tryd.prog w = .ok (.float .f64 4616189618054758400) w := fun w => run_convert_int_float w _ _ .u64 .f64 4 (by rw [Tryd.underlying104]; rfl) Tryd.underlying69
  have rn := neg_run (P := Tryd.prog)
  clear A0 A1 A2 A3 A4 A5 A6 A7 A8 A9 A10 A11 A12 A13 A14 A15 A16 A17 A18 A19 A20 J
  go_enter Tryd.func67, Tryd.ntmps67
  go_wp2_with fail
  (with_reducible refine (nan_w x _ FN.out).mono ?_); rintro e w1 ⟨rfl, rfl⟩
  go_wp2_with fail
  (with_reducible refine (inf_w x _ FI.out).mono ?_); rintro e w1 ⟨rfl, rfl⟩
  go_wp2_with fail
  go_ret
  exact ⟨by first | rfl | trivial, rfl⟩
set_option maxRecDepth 100000 in
set_option maxHeartbeats 1000000 in
theorem sin_5 (x m p1 d1 p2 d2 p3 z zz h1 h2 z2 a1 b1 a2 b2 a3 b3 a4 b4 a5 b5 q v : Nat) (w : World) (F : Fine x) (T : Tabs w) (J : floatToIntVal .f64 m .u64 = some 5) (A0 : Ar .mul x 4608412980311869571 m) (A1 : Ar .mul 4618441417868443648 4605249456957292544 p1) (A2 : Ar .sub x p1 d1) (A3 : Ar .mul 4618441417868443648 4495793288086814720 p2) (A4 : Ar .sub d1 p2 d2) (A5 : Ar .mul 4618441417868443648 4388835458085048688 p3) (A6 : Ar .sub d2 p3 z) (A7 : Ar .mul z z zz) (A8 : Ar .mul 4602678819172646912 zz h1) (A9 : Ar .sub 4607182418800017408 h1 h2) (A10 : Ar .mul zz zz z2) (A11 : Ar .mul 13666448263388469915 zz a1) (A12 : Ar .add a1 4477121864728985349 b1) (A13 : Ar .mul b1 zz a2) (A14 : Ar .add a2 13732177093698800582 b2) (A15 : Ar .mul b2 zz a3) (A16 : Ar .add a3 4537941361668146421 b3) (A17 : Ar .mul b3 zz a4) (A18 : Ar .add a4 13787419979223748497 b4) (A19 : Ar .mul b4 zz a5) (A20 : Ar .add a5 4586165620538955083 b5) (A21 : Ar .mul z2 b5 q) (A22 : Ar .add h2 q v) :
    Calls Tryd.prog 67 #[.float .f64 x] w fun e w' => e = .returned (.float .f64 (Op.negFloat .f64 v)) ∧ w = w' := by
  obtain ⟨f0, fn, fi, fp, f1, f2⟩ := F
  have FN := Lib.hid fn; have FI := Lib.hid fi; clear fn fi
  obtain ⟨c0, c1, c2, c3, c4, c5, s0, s1, s2, s3, s4, s5⟩ := T
  have r0 := ar_run A0
  have r1 := ar_run A1
  have r2 := ar_run A2
  have r3 := ar_run A3
  have r4 := ar_run A4
  have r5 := ar_run A5
  have r6 := ar_run A6
  have r7 := ar_run A7
  have r8 := ar_run A8
  have r9 := ar_run A9
  have r10 := ar_run A10
  have r11 := ar_run A11
  have r12 := ar_run A12
  have r13 := ar_run A13
  have r14 := ar_run A14
  have r15 := ar_run A15
  have r16 := ar_run A16
  have r17 := ar_run A17
  have r18 := ar_run A18
  have r19 := ar_run A19
  have r20 := ar_run A20
  have r21 := ar_run A21
  have r22 := ar_run A22
  have ry := ar_run (show Ar .add 4617315517961601024 4607182418800017408 4618441417868443648 by unfold Ar; kernel_rfl)
  have rj : ∀ w, (convert 69 104 (.float .f64 m)).run Tryd.prog w = .ok (.int .u64 5) w := fun w => run_convert_float_int w _ _ .f64 .u64 m 5 (by rw [Tryd.underlying69]; rfl) Tryd.underlying104 J
  have rk : ∀ w, (convert 104 69 (.int .u64 5)).run Tryd.prog w = .ok (.float .f64 4617315517961601024) w := fun w => run_convert_int_float w _ _ .u64 .f64 5 (by rw [Tryd.underlying104]; rfl) Tryd.underlying69
  have rn := neg_run (P := Tryd.prog)
  clear A0 A1 A2 A3 A4 A5 A6 A7 A8 A9 A10 A11 A12 A13 A14 A15 A16 A17 A18 A19 A20 A21 A22 J
  go_enter Tryd.func67, Tryd.ntmps67
  go_wp2_with fail
  (with_reducible refine (nan_w x _ FN.out).mono ?_); rintro e w1 ⟨rfl, rfl⟩
  go_wp2_with fail
  (with_reducible refine (inf_w x _ FI.out).mono ?_); rintro e w1 ⟨rfl, rfl⟩
  go_wp2_with fail
  go_ret
  exact ⟨by first | rfl | trivial, rfl⟩
set_option maxRecDepth 100000 in
set_option maxHeartbeats 1000000 in
theorem sin_6 (x m p1 d1 p2 d2 p3 z zz h1 h2 z2 a1 b1 a2 b2 a3 b3 a4 b4 a5 b5 q v : Nat) (w : World) (F : Fine x) (T : Tabs w) (J : floatToIntVal .f64 m .u64 = some 6) (A0 : Ar .mul x 4608412980311869571 m) (A1 : Ar .mul 4618441417868443648 4605249456957292544 p1) (A2 : Ar .sub x p1 d1) (A3 : Ar .mul 4618441417868443648 4495793288086814720 p2) (A4 : Ar .sub d1 p2 d2) (A5 : Ar .mul 4618441417868443648 4388835458085048688 p3) (A6 : Ar .sub d2 p3 z) (A7 : Ar .mul z z zz) (A8 : Ar .mul 4602678819172646912 zz h1) (A9 : Ar .sub 4607182418800017408 h1 h2) (A10 : Ar .mul zz zz z2) (A11 : Ar .mul 13666448263388469915 zz a1) (A12 : Ar .add a1 4477121864728985349 b1) (A13 : Ar .mul b1 zz a2) (A14 : Ar .add a2 13732177093698800582 b2) (A15 : Ar .mul b2 zz a3) (A16 : Ar .add a3 4537941361668146421 b3) (A17 : Ar .mul b3 zz a4) (A18 : Ar .add a4 13787419979223748497 b4) (A19 : Ar .mul b4 zz a5) (A20 : Ar .add a5 4586165620538955083 b5) (A21 : Ar .mul z2 b5 q) (A22 : Ar .add h2 q v) :
    Calls Tryd.prog 67 #[.float .f64 x] w fun e w' => e = .returned (.float .f64 (Op.negFloat .f64 v)) ∧ w = w' := by
  obtain ⟨f0, fn, fi, fp, f1, f2⟩ := F
  have FN := Lib.hid fn; have FI := Lib.hid fi; clear fn fi
  obtain ⟨c0, c1, c2, c3, c4, c5, s0, s1, s2, s3, s4, s5⟩ := T
  have r0 := ar_run A0
  have r1 := ar_run A1
  have r2 := ar_run A2
  have r3 := ar_run A3
  have r4 := ar_run A4
  have r5 := ar_run A5
  have r6 := ar_run A6
  have r7 := ar_run A7
  have r8 := ar_run A8
  have r9 := ar_run A9
  have r10 := ar_run A10
  have r11 := ar_run A11
  have r12 := ar_run A12
  have r13 := ar_run A13
  have r14 := ar_run A14
  have r15 := ar_run A15
  have r16 := ar_run A16
  have r17 := ar_run A17
  have r18 := ar_run A18
  have r19 := ar_run A19
  have r20 := ar_run A20
  have r21 := ar_run A21
  have r22 := ar_run A22
  have rj : ∀ w, (convert 69 104 (.float .f64 m)).run Tryd.prog w = .ok (.int .u64 6) w := fun w => run_convert_float_int w _ _ .f64 .u64 m 6 (by rw [Tryd.underlying69]; rfl) Tryd.underlying104 J
  have rk : ∀ w, (convert 104 69 (.int .u64 6)).run Tryd.prog w = .ok (.float .f64 4618441417868443648) w := fun w => run_convert_int_float w _ _ .u64 .f64 6 (by rw [Tryd.underlying104]; rfl) Tryd.underlying69
  have rn := neg_run (P := Tryd.prog)
  clear A0 A1 A2 A3 A4 A5 A6 A7 A8 A9 A10 A11 A12 A13 A14 A15 A16 A17 A18 A19 A20 A21 A22 J
  go_enter Tryd.func67, Tryd.ntmps67
  go_wp2_with fail
  (with_reducible refine (nan_w x _ FN.out).mono ?_); rintro e w1 ⟨rfl, rfl⟩
  go_wp2_with fail
  (with_reducible refine (inf_w x _ FI.out).mono ?_); rintro e w1 ⟨rfl, rfl⟩
  go_wp2_with fail
  go_ret
  exact ⟨by first | rfl | trivial, rfl⟩
set_option maxRecDepth 100000 in
set_option maxHeartbeats 1000000 in
theorem sin_7 (x m p1 d1 p2 d2 p3 z zz z2 a1 b1 a2 b2 a3 b3 a4 b4 a5 b5 q v : Nat) (w : World) (F : Fine x) (T : Tabs w) (J : floatToIntVal .f64 m .u64 = some 7) (A0 : Ar .mul x 4608412980311869571 m) (A1 : Ar .mul 4620693217682128896 4605249456957292544 p1) (A2 : Ar .sub x p1 d1) (A3 : Ar .mul 4620693217682128896 4495793288086814720 p2) (A4 : Ar .sub d1 p2 d2) (A5 : Ar .mul 4620693217682128896 4388835458085048688 p3) (A6 : Ar .sub d2 p3 z) (A7 : Ar .mul z z zz) (A8 : Ar .mul z zz z2) (A9 : Ar .mul 4460209587652500685 zz a1) (A10 : Ar .add a1 13716528389658582877 b1) (A11 : Ar .mul b1 zz a2) (A12 : Ar .add a2 4523617212962785441 b2) (A13 : Ar .mul b2 zz a3) (A14 : Ar .add a3 13774824197404483331 b3) (A15 : Ar .mul b3 zz a4) (A16 : Ar .add a4 4575957461383575504 b4) (A17 : Ar .mul b4 zz a5) (A18 : Ar .add a5 13818544856648471880 b5) (A19 : Ar .mul z2 b5 q) (A20 : Ar .add z q v) :
    Calls Tryd.prog 67 #[.float .f64 x] w fun e w' => e = .returned (.float .f64 (v)) ∧ w = w' := by
  obtain ⟨f0, fn, fi, fp, f1, f2⟩ := F
  have FN := Lib.hid fn; have FI := Lib.hid fi; clear fn fi
  obtain ⟨c0, c1, c2, c3, c4, c5, s0, s1, s2, s3, s4, s5⟩ := T
  have r0 := ar_run A0
  have r1 := ar_run A1
  have r2 := ar_run A2
  have r3 := ar_run A3
  have r4 := ar_run A4
  have r5 := ar_run A5
  have r6 := ar_run A6
  have r7 := ar_run A7
  have r8 := ar_run A8
  have r9 := ar_run A9
  have r10 := ar_run A10
  have r11 := ar_run A11
  have r12 := ar_run A12
  have r13 := ar_run A13
  have r14 := ar_run A14
  have r15 := ar_run A15
  have r16 := ar_run A16
  have r17 := ar_run A17
  have r18 := ar_run A18
  have r19 := ar_run A19
  have r20 := ar_run A20
  have ry := ar_run (show Ar .add 4619567317775286272 4607182418800017408 4620693217682128896 by unfold Ar; kernel_rfl)
  have rj : ∀ w, (convert 69 104 (.float .f64 m)).run Tryd.prog w = .ok (.int .u64 7) w := fun w => run_convert_float_int w _ _ .f64 .u64 m 7 (by rw [Tryd.underlying69]; rfl) Tryd.underlying104 J
  have rk : ∀ w, (convert 104 69 (.int .u64 7)).run Tryd.prog w = .ok (.float .f64 4619567317775286272) w := fun w => run_convert_int_float w _ _ .u64 .f64 7 (by rw [Tryd.underlying104]; rfl) Tryd.underlying69
  have rn := neg_run (P := Tryd.prog)
  clear A0 A1 A2 A3 A4 A5 A6 A7 A8 A9 A10 A11 A12 A13 A14 A15 A16 A17 A18 A19 A20 J
  go_enter Tryd.func67, Tryd.ntmps67
  go_wp2_with fail
  (with_reducible refine (nan_w x _ FN.out).mono ?_); rintro e w1 ⟨rfl, rfl⟩
  go_wp2_with fail
  (with_reducible refine (inf_w x _ FI.out).mono ?_); rintro e w1 ⟨rfl, rfl⟩
  go_wp2_with fail
  go_ret
  exact ⟨by first | rfl | trivial, rfl⟩
/-- n is reckoned, then k is asked. -/
def lt' {α : Type} (n : Nat) (k : Nat → α) : α := match n with
  | 0 => k 0
  | m + 1 => k (m + 1)
theorem lt_eq {α : Type} (n : Nat) (k : Nat → α) : lt' n k = k n := by cases n <;> rfl
def fb {α : Type} (o : Option Nat) (k : Nat → Option α) : Option α := match o with
  | none => none
  | some r => lt' r k
theorem fb_some {α : Type} {o : Option Nat} {k : Nat → Option α} {r : α} (h : fb o k = some r) : ∃ v, o = some v ∧ k v = some r := by
  unfold fb at h
  cases o with
  | none => cases h
  | some v => rw [show (match some v with | none => none | some r => lt' r k) = lt' v k from rfl, lt_eq] at h; exact ⟨v, rfl, h⟩
def fineB (x : Nat) : Bool :=
  !(FloatKind.f64.format.order x 0 == some .eq) && !(FloatKind.f64.format.order x x != some .eq) && !(FloatKind.f64.format.order (bits .andNot .u64 (x : Int) 9223372036854775808).toNat 9218868437227405311 == some .gt) && !(FloatKind.f64.format.order x 0 == some .lt) && !(FloatKind.f64.format.order x 4737786807993761792 == some .gt) && !(FloatKind.f64.format.order x 4737786807993761792 == some .eq)
theorem fine_of {x : Nat} (h : fineB x = true) : Fine x := by
  unfold fineB at h
  simp only [Bool.and_eq_true, Bool.not_eq_true'] at h
  obtain ⟨⟨⟨⟨⟨h1, h2⟩, h3⟩, h4⟩, h5⟩, h6⟩ := h
  exact ⟨h1, h2, h3, h4, h5, h6⟩
/-- math.sin in octant 0. -/
def ch0 (x : Nat) : Option Nat :=
  fb (floatBits .mul .f64 0 4605249456957292544) fun p1 =>
  fb (floatBits .sub .f64 x p1) fun d1 =>
  fb (floatBits .mul .f64 0 4495793288086814720) fun p2 =>
  fb (floatBits .sub .f64 d1 p2) fun d2 =>
  fb (floatBits .mul .f64 0 4388835458085048688) fun p3 =>
  fb (floatBits .sub .f64 d2 p3) fun z =>
  fb (floatBits .mul .f64 z z) fun zz =>
  fb (floatBits .mul .f64 z zz) fun z2 =>
  fb (floatBits .mul .f64 4460209587652500685 zz) fun a1 =>
  fb (floatBits .add .f64 a1 13716528389658582877) fun b1 =>
  fb (floatBits .mul .f64 b1 zz) fun a2 =>
  fb (floatBits .add .f64 a2 4523617212962785441) fun b2 =>
  fb (floatBits .mul .f64 b2 zz) fun a3 =>
  fb (floatBits .add .f64 a3 13774824197404483331) fun b3 =>
  fb (floatBits .mul .f64 b3 zz) fun a4 =>
  fb (floatBits .add .f64 a4 4575957461383575504) fun b4 =>
  fb (floatBits .mul .f64 b4 zz) fun a5 =>
  fb (floatBits .add .f64 a5 13818544856648471880) fun b5 =>
  fb (floatBits .mul .f64 z2 b5) fun q =>
  fb (floatBits .add .f64 z q) fun v =>
  some v
theorem ch0_ok {x m r : Nat} {w : World} (F : Fine x) (T : Tabs w) (A0 : Ar .mul x 4608412980311869571 m) (J : floatToIntVal .f64 m .u64 = some 0) (h : ch0 x = some r) :
    Calls Tryd.prog 67 #[.float .f64 x] w fun e w' => e = .returned (.float .f64 r) ∧ w = w' := by
  unfold ch0 at h
  obtain ⟨p1, A1, h⟩ := fb_some h
  obtain ⟨d1, A2, h⟩ := fb_some h
  obtain ⟨p2, A3, h⟩ := fb_some h
  obtain ⟨d2, A4, h⟩ := fb_some h
  obtain ⟨p3, A5, h⟩ := fb_some h
  obtain ⟨z, A6, h⟩ := fb_some h
  obtain ⟨zz, A7, h⟩ := fb_some h
  obtain ⟨z2, A8, h⟩ := fb_some h
  obtain ⟨a1, A9, h⟩ := fb_some h
  obtain ⟨b1, A10, h⟩ := fb_some h
  obtain ⟨a2, A11, h⟩ := fb_some h
  obtain ⟨b2, A12, h⟩ := fb_some h
  obtain ⟨a3, A13, h⟩ := fb_some h
  obtain ⟨b3, A14, h⟩ := fb_some h
  obtain ⟨a4, A15, h⟩ := fb_some h
  obtain ⟨b4, A16, h⟩ := fb_some h
  obtain ⟨a5, A17, h⟩ := fb_some h
  obtain ⟨b5, A18, h⟩ := fb_some h
  obtain ⟨q, A19, h⟩ := fb_some h
  obtain ⟨v, A20, h⟩ := fb_some h
  injection h with h
  subst h
  exact sin_0 x m p1 d1 p2 d2 p3 z zz z2 a1 b1 a2 b2 a3 b3 a4 b4 a5 b5 q v w F T J A0 A1 A2 A3 A4 A5 A6 A7 A8 A9 A10 A11 A12 A13 A14 A15 A16 A17 A18 A19 A20
/-- math.sin in octant 1. -/
def ch1 (x : Nat) : Option Nat :=
  fb (floatBits .mul .f64 4611686018427387904 4605249456957292544) fun p1 =>
  fb (floatBits .sub .f64 x p1) fun d1 =>
  fb (floatBits .mul .f64 4611686018427387904 4495793288086814720) fun p2 =>
  fb (floatBits .sub .f64 d1 p2) fun d2 =>
  fb (floatBits .mul .f64 4611686018427387904 4388835458085048688) fun p3 =>
  fb (floatBits .sub .f64 d2 p3) fun z =>
  fb (floatBits .mul .f64 z z) fun zz =>
  fb (floatBits .mul .f64 4602678819172646912 zz) fun h1 =>
  fb (floatBits .sub .f64 4607182418800017408 h1) fun h2 =>
  fb (floatBits .mul .f64 zz zz) fun z2 =>
  fb (floatBits .mul .f64 13666448263388469915 zz) fun a1 =>
  fb (floatBits .add .f64 a1 4477121864728985349) fun b1 =>
  fb (floatBits .mul .f64 b1 zz) fun a2 =>
  fb (floatBits .add .f64 a2 13732177093698800582) fun b2 =>
  fb (floatBits .mul .f64 b2 zz) fun a3 =>
  fb (floatBits .add .f64 a3 4537941361668146421) fun b3 =>
  fb (floatBits .mul .f64 b3 zz) fun a4 =>
  fb (floatBits .add .f64 a4 13787419979223748497) fun b4 =>
  fb (floatBits .mul .f64 b4 zz) fun a5 =>
  fb (floatBits .add .f64 a5 4586165620538955083) fun b5 =>
  fb (floatBits .mul .f64 z2 b5) fun q =>
  fb (floatBits .add .f64 h2 q) fun v =>
  some v
theorem ch1_ok {x m r : Nat} {w : World} (F : Fine x) (T : Tabs w) (A0 : Ar .mul x 4608412980311869571 m) (J : floatToIntVal .f64 m .u64 = some 1) (h : ch1 x = some r) :
    Calls Tryd.prog 67 #[.float .f64 x] w fun e w' => e = .returned (.float .f64 r) ∧ w = w' := by
  unfold ch1 at h
  obtain ⟨p1, A1, h⟩ := fb_some h
  obtain ⟨d1, A2, h⟩ := fb_some h
  obtain ⟨p2, A3, h⟩ := fb_some h
  obtain ⟨d2, A4, h⟩ := fb_some h
  obtain ⟨p3, A5, h⟩ := fb_some h
  obtain ⟨z, A6, h⟩ := fb_some h
  obtain ⟨zz, A7, h⟩ := fb_some h
  obtain ⟨h1, A8, h⟩ := fb_some h
  obtain ⟨h2, A9, h⟩ := fb_some h
  obtain ⟨z2, A10, h⟩ := fb_some h
  obtain ⟨a1, A11, h⟩ := fb_some h
  obtain ⟨b1, A12, h⟩ := fb_some h
  obtain ⟨a2, A13, h⟩ := fb_some h
  obtain ⟨b2, A14, h⟩ := fb_some h
  obtain ⟨a3, A15, h⟩ := fb_some h
  obtain ⟨b3, A16, h⟩ := fb_some h
  obtain ⟨a4, A17, h⟩ := fb_some h
  obtain ⟨b4, A18, h⟩ := fb_some h
  obtain ⟨a5, A19, h⟩ := fb_some h
  obtain ⟨b5, A20, h⟩ := fb_some h
  obtain ⟨q, A21, h⟩ := fb_some h
  obtain ⟨v, A22, h⟩ := fb_some h
  injection h with h
  subst h
  exact sin_1 x m p1 d1 p2 d2 p3 z zz h1 h2 z2 a1 b1 a2 b2 a3 b3 a4 b4 a5 b5 q v w F T J A0 A1 A2 A3 A4 A5 A6 A7 A8 A9 A10 A11 A12 A13 A14 A15 A16 A17 A18 A19 A20 A21 A22
/-- math.sin in octant 2. -/
def ch2 (x : Nat) : Option Nat :=
  fb (floatBits .mul .f64 4611686018427387904 4605249456957292544) fun p1 =>
  fb (floatBits .sub .f64 x p1) fun d1 =>
  fb (floatBits .mul .f64 4611686018427387904 4495793288086814720) fun p2 =>
  fb (floatBits .sub .f64 d1 p2) fun d2 =>
  fb (floatBits .mul .f64 4611686018427387904 4388835458085048688) fun p3 =>
  fb (floatBits .sub .f64 d2 p3) fun z =>
  fb (floatBits .mul .f64 z z) fun zz =>
  fb (floatBits .mul .f64 4602678819172646912 zz) fun h1 =>
  fb (floatBits .sub .f64 4607182418800017408 h1) fun h2 =>
  fb (floatBits .mul .f64 zz zz) fun z2 =>
  fb (floatBits .mul .f64 13666448263388469915 zz) fun a1 =>
  fb (floatBits .add .f64 a1 4477121864728985349) fun b1 =>
  fb (floatBits .mul .f64 b1 zz) fun a2 =>
  fb (floatBits .add .f64 a2 13732177093698800582) fun b2 =>
  fb (floatBits .mul .f64 b2 zz) fun a3 =>
  fb (floatBits .add .f64 a3 4537941361668146421) fun b3 =>
  fb (floatBits .mul .f64 b3 zz) fun a4 =>
  fb (floatBits .add .f64 a4 13787419979223748497) fun b4 =>
  fb (floatBits .mul .f64 b4 zz) fun a5 =>
  fb (floatBits .add .f64 a5 4586165620538955083) fun b5 =>
  fb (floatBits .mul .f64 z2 b5) fun q =>
  fb (floatBits .add .f64 h2 q) fun v =>
  some v
theorem ch2_ok {x m r : Nat} {w : World} (F : Fine x) (T : Tabs w) (A0 : Ar .mul x 4608412980311869571 m) (J : floatToIntVal .f64 m .u64 = some 2) (h : ch2 x = some r) :
    Calls Tryd.prog 67 #[.float .f64 x] w fun e w' => e = .returned (.float .f64 r) ∧ w = w' := by
  unfold ch2 at h
  obtain ⟨p1, A1, h⟩ := fb_some h
  obtain ⟨d1, A2, h⟩ := fb_some h
  obtain ⟨p2, A3, h⟩ := fb_some h
  obtain ⟨d2, A4, h⟩ := fb_some h
  obtain ⟨p3, A5, h⟩ := fb_some h
  obtain ⟨z, A6, h⟩ := fb_some h
  obtain ⟨zz, A7, h⟩ := fb_some h
  obtain ⟨h1, A8, h⟩ := fb_some h
  obtain ⟨h2, A9, h⟩ := fb_some h
  obtain ⟨z2, A10, h⟩ := fb_some h
  obtain ⟨a1, A11, h⟩ := fb_some h
  obtain ⟨b1, A12, h⟩ := fb_some h
  obtain ⟨a2, A13, h⟩ := fb_some h
  obtain ⟨b2, A14, h⟩ := fb_some h
  obtain ⟨a3, A15, h⟩ := fb_some h
  obtain ⟨b3, A16, h⟩ := fb_some h
  obtain ⟨a4, A17, h⟩ := fb_some h
  obtain ⟨b4, A18, h⟩ := fb_some h
  obtain ⟨a5, A19, h⟩ := fb_some h
  obtain ⟨b5, A20, h⟩ := fb_some h
  obtain ⟨q, A21, h⟩ := fb_some h
  obtain ⟨v, A22, h⟩ := fb_some h
  injection h with h
  subst h
  exact sin_2 x m p1 d1 p2 d2 p3 z zz h1 h2 z2 a1 b1 a2 b2 a3 b3 a4 b4 a5 b5 q v w F T J A0 A1 A2 A3 A4 A5 A6 A7 A8 A9 A10 A11 A12 A13 A14 A15 A16 A17 A18 A19 A20 A21 A22
/-- math.sin in octant 3. -/
def ch3 (x : Nat) : Option Nat :=
  fb (floatBits .mul .f64 4616189618054758400 4605249456957292544) fun p1 =>
  fb (floatBits .sub .f64 x p1) fun d1 =>
  fb (floatBits .mul .f64 4616189618054758400 4495793288086814720) fun p2 =>
  fb (floatBits .sub .f64 d1 p2) fun d2 =>
  fb (floatBits .mul .f64 4616189618054758400 4388835458085048688) fun p3 =>
  fb (floatBits .sub .f64 d2 p3) fun z =>
  fb (floatBits .mul .f64 z z) fun zz =>
  fb (floatBits .mul .f64 z zz) fun z2 =>
  fb (floatBits .mul .f64 4460209587652500685 zz) fun a1 =>
  fb (floatBits .add .f64 a1 13716528389658582877) fun b1 =>
  fb (floatBits .mul .f64 b1 zz) fun a2 =>
  fb (floatBits .add .f64 a2 4523617212962785441) fun b2 =>
  fb (floatBits .mul .f64 b2 zz) fun a3 =>
  fb (floatBits .add .f64 a3 13774824197404483331) fun b3 =>
  fb (floatBits .mul .f64 b3 zz) fun a4 =>
  fb (floatBits .add .f64 a4 4575957461383575504) fun b4 =>
  fb (floatBits .mul .f64 b4 zz) fun a5 =>
  fb (floatBits .add .f64 a5 13818544856648471880) fun b5 =>
  fb (floatBits .mul .f64 z2 b5) fun q =>
  fb (floatBits .add .f64 z q) fun v =>
  some (Op.negFloat .f64 v)
theorem ch3_ok {x m r : Nat} {w : World} (F : Fine x) (T : Tabs w) (A0 : Ar .mul x 4608412980311869571 m) (J : floatToIntVal .f64 m .u64 = some 3) (h : ch3 x = some r) :
    Calls Tryd.prog 67 #[.float .f64 x] w fun e w' => e = .returned (.float .f64 r) ∧ w = w' := by
  unfold ch3 at h
  obtain ⟨p1, A1, h⟩ := fb_some h
  obtain ⟨d1, A2, h⟩ := fb_some h
  obtain ⟨p2, A3, h⟩ := fb_some h
  obtain ⟨d2, A4, h⟩ := fb_some h
  obtain ⟨p3, A5, h⟩ := fb_some h
  obtain ⟨z, A6, h⟩ := fb_some h
  obtain ⟨zz, A7, h⟩ := fb_some h
  obtain ⟨z2, A8, h⟩ := fb_some h
  obtain ⟨a1, A9, h⟩ := fb_some h
  obtain ⟨b1, A10, h⟩ := fb_some h
  obtain ⟨a2, A11, h⟩ := fb_some h
  obtain ⟨b2, A12, h⟩ := fb_some h
  obtain ⟨a3, A13, h⟩ := fb_some h
  obtain ⟨b3, A14, h⟩ := fb_some h
  obtain ⟨a4, A15, h⟩ := fb_some h
  obtain ⟨b4, A16, h⟩ := fb_some h
  obtain ⟨a5, A17, h⟩ := fb_some h
  obtain ⟨b5, A18, h⟩ := fb_some h
  obtain ⟨q, A19, h⟩ := fb_some h
  obtain ⟨v, A20, h⟩ := fb_some h
  injection h with h
  subst h
  exact sin_3 x m p1 d1 p2 d2 p3 z zz z2 a1 b1 a2 b2 a3 b3 a4 b4 a5 b5 q v w F T J A0 A1 A2 A3 A4 A5 A6 A7 A8 A9 A10 A11 A12 A13 A14 A15 A16 A17 A18 A19 A20
/-- math.sin in octant 4. -/
def ch4 (x : Nat) : Option Nat :=
  fb (floatBits .mul .f64 4616189618054758400 4605249456957292544) fun p1 =>
  fb (floatBits .sub .f64 x p1) fun d1 =>
  fb (floatBits .mul .f64 4616189618054758400 4495793288086814720) fun p2 =>
  fb (floatBits .sub .f64 d1 p2) fun d2 =>
  fb (floatBits .mul .f64 4616189618054758400 4388835458085048688) fun p3 =>
  fb (floatBits .sub .f64 d2 p3) fun z =>
  fb (floatBits .mul .f64 z z) fun zz =>
  fb (floatBits .mul .f64 z zz) fun z2 =>
  fb (floatBits .mul .f64 4460209587652500685 zz) fun a1 =>
  fb (floatBits .add .f64 a1 13716528389658582877) fun b1 =>
  fb (floatBits .mul .f64 b1 zz) fun a2 =>
  fb (floatBits .add .f64 a2 4523617212962785441) fun b2 =>
  fb (floatBits .mul .f64 b2 zz) fun a3 =>
  fb (floatBits .add .f64 a3 13774824197404483331) fun b3 =>
  fb (floatBits .mul .f64 b3 zz) fun a4 =>
  fb (floatBits .add .f64 a4 4575957461383575504) fun b4 =>
  fb (floatBits .mul .f64 b4 zz) fun a5 =>
  fb (floatBits .add .f64 a5 13818544856648471880) fun b5 =>
  fb (floatBits .mul .f64 z2 b5) fun q =>
  fb (floatBits .add .f64 z q) fun v =>
  some (Op.negFloat .f64 v)
theorem ch4_ok {x m r : Nat} {w : World} (F : Fine x) (T : Tabs w) (A0 : Ar .mul x 4608412980311869571 m) (J : floatToIntVal .f64 m .u64 = some 4) (h : ch4 x = some r) :
    Calls Tryd.prog 67 #[.float .f64 x] w fun e w' => e = .returned (.float .f64 r) ∧ w = w' := by
  unfold ch4 at h
  obtain ⟨p1, A1, h⟩ := fb_some h
  obtain ⟨d1, A2, h⟩ := fb_some h
  obtain ⟨p2, A3, h⟩ := fb_some h
  obtain ⟨d2, A4, h⟩ := fb_some h
  obtain ⟨p3, A5, h⟩ := fb_some h
  obtain ⟨z, A6, h⟩ := fb_some h
  obtain ⟨zz, A7, h⟩ := fb_some h
  obtain ⟨z2, A8, h⟩ := fb_some h
  obtain ⟨a1, A9, h⟩ := fb_some h
  obtain ⟨b1, A10, h⟩ := fb_some h
  obtain ⟨a2, A11, h⟩ := fb_some h
  obtain ⟨b2, A12, h⟩ := fb_some h
  obtain ⟨a3, A13, h⟩ := fb_some h
  obtain ⟨b3, A14, h⟩ := fb_some h
  obtain ⟨a4, A15, h⟩ := fb_some h
  obtain ⟨b4, A16, h⟩ := fb_some h
  obtain ⟨a5, A17, h⟩ := fb_some h
  obtain ⟨b5, A18, h⟩ := fb_some h
  obtain ⟨q, A19, h⟩ := fb_some h
  obtain ⟨v, A20, h⟩ := fb_some h
  injection h with h
  subst h
  exact sin_4 x m p1 d1 p2 d2 p3 z zz z2 a1 b1 a2 b2 a3 b3 a4 b4 a5 b5 q v w F T J A0 A1 A2 A3 A4 A5 A6 A7 A8 A9 A10 A11 A12 A13 A14 A15 A16 A17 A18 A19 A20
/-- math.sin in octant 5. -/
def ch5 (x : Nat) : Option Nat :=
  fb (floatBits .mul .f64 4618441417868443648 4605249456957292544) fun p1 =>
  fb (floatBits .sub .f64 x p1) fun d1 =>
  fb (floatBits .mul .f64 4618441417868443648 4495793288086814720) fun p2 =>
  fb (floatBits .sub .f64 d1 p2) fun d2 =>
  fb (floatBits .mul .f64 4618441417868443648 4388835458085048688) fun p3 =>
  fb (floatBits .sub .f64 d2 p3) fun z =>
  fb (floatBits .mul .f64 z z) fun zz =>
  fb (floatBits .mul .f64 4602678819172646912 zz) fun h1 =>
  fb (floatBits .sub .f64 4607182418800017408 h1) fun h2 =>
  fb (floatBits .mul .f64 zz zz) fun z2 =>
  fb (floatBits .mul .f64 13666448263388469915 zz) fun a1 =>
  fb (floatBits .add .f64 a1 4477121864728985349) fun b1 =>
  fb (floatBits .mul .f64 b1 zz) fun a2 =>
  fb (floatBits .add .f64 a2 13732177093698800582) fun b2 =>
  fb (floatBits .mul .f64 b2 zz) fun a3 =>
  fb (floatBits .add .f64 a3 4537941361668146421) fun b3 =>
  fb (floatBits .mul .f64 b3 zz) fun a4 =>
  fb (floatBits .add .f64 a4 13787419979223748497) fun b4 =>
  fb (floatBits .mul .f64 b4 zz) fun a5 =>
  fb (floatBits .add .f64 a5 4586165620538955083) fun b5 =>
  fb (floatBits .mul .f64 z2 b5) fun q =>
  fb (floatBits .add .f64 h2 q) fun v =>
  some (Op.negFloat .f64 v)
theorem ch5_ok {x m r : Nat} {w : World} (F : Fine x) (T : Tabs w) (A0 : Ar .mul x 4608412980311869571 m) (J : floatToIntVal .f64 m .u64 = some 5) (h : ch5 x = some r) :
    Calls Tryd.prog 67 #[.float .f64 x] w fun e w' => e = .returned (.float .f64 r) ∧ w = w' := by
  unfold ch5 at h
  obtain ⟨p1, A1, h⟩ := fb_some h
  obtain ⟨d1, A2, h⟩ := fb_some h
  obtain ⟨p2, A3, h⟩ := fb_some h
  obtain ⟨d2, A4, h⟩ := fb_some h
  obtain ⟨p3, A5, h⟩ := fb_some h
  obtain ⟨z, A6, h⟩ := fb_some h
  obtain ⟨zz, A7, h⟩ := fb_some h
  obtain ⟨h1, A8, h⟩ := fb_some h
  obtain ⟨h2, A9, h⟩ := fb_some h
  obtain ⟨z2, A10, h⟩ := fb_some h
  obtain ⟨a1, A11, h⟩ := fb_some h
  obtain ⟨b1, A12, h⟩ := fb_some h
  obtain ⟨a2, A13, h⟩ := fb_some h
  obtain ⟨b2, A14, h⟩ := fb_some h
  obtain ⟨a3, A15, h⟩ := fb_some h
  obtain ⟨b3, A16, h⟩ := fb_some h
  obtain ⟨a4, A17, h⟩ := fb_some h
  obtain ⟨b4, A18, h⟩ := fb_some h
  obtain ⟨a5, A19, h⟩ := fb_some h
  obtain ⟨b5, A20, h⟩ := fb_some h
  obtain ⟨q, A21, h⟩ := fb_some h
  obtain ⟨v, A22, h⟩ := fb_some h
  injection h with h
  subst h
  exact sin_5 x m p1 d1 p2 d2 p3 z zz h1 h2 z2 a1 b1 a2 b2 a3 b3 a4 b4 a5 b5 q v w F T J A0 A1 A2 A3 A4 A5 A6 A7 A8 A9 A10 A11 A12 A13 A14 A15 A16 A17 A18 A19 A20 A21 A22
/-- math.sin in octant 6. -/
def ch6 (x : Nat) : Option Nat :=
  fb (floatBits .mul .f64 4618441417868443648 4605249456957292544) fun p1 =>
  fb (floatBits .sub .f64 x p1) fun d1 =>
  fb (floatBits .mul .f64 4618441417868443648 4495793288086814720) fun p2 =>
  fb (floatBits .sub .f64 d1 p2) fun d2 =>
  fb (floatBits .mul .f64 4618441417868443648 4388835458085048688) fun p3 =>
  fb (floatBits .sub .f64 d2 p3) fun z =>
  fb (floatBits .mul .f64 z z) fun zz =>
  fb (floatBits .mul .f64 4602678819172646912 zz) fun h1 =>
  fb (floatBits .sub .f64 4607182418800017408 h1) fun h2 =>
  fb (floatBits .mul .f64 zz zz) fun z2 =>
  fb (floatBits .mul .f64 13666448263388469915 zz) fun a1 =>
  fb (floatBits .add .f64 a1 4477121864728985349) fun b1 =>
  fb (floatBits .mul .f64 b1 zz) fun a2 =>
  fb (floatBits .add .f64 a2 13732177093698800582) fun b2 =>
  fb (floatBits .mul .f64 b2 zz) fun a3 =>
  fb (floatBits .add .f64 a3 4537941361668146421) fun b3 =>
  fb (floatBits .mul .f64 b3 zz) fun a4 =>
  fb (floatBits .add .f64 a4 13787419979223748497) fun b4 =>
  fb (floatBits .mul .f64 b4 zz) fun a5 =>
  fb (floatBits .add .f64 a5 4586165620538955083) fun b5 =>
  fb (floatBits .mul .f64 z2 b5) fun q =>
  fb (floatBits .add .f64 h2 q) fun v =>
  some (Op.negFloat .f64 v)
theorem ch6_ok {x m r : Nat} {w : World} (F : Fine x) (T : Tabs w) (A0 : Ar .mul x 4608412980311869571 m) (J : floatToIntVal .f64 m .u64 = some 6) (h : ch6 x = some r) :
    Calls Tryd.prog 67 #[.float .f64 x] w fun e w' => e = .returned (.float .f64 r) ∧ w = w' := by
  unfold ch6 at h
  obtain ⟨p1, A1, h⟩ := fb_some h
  obtain ⟨d1, A2, h⟩ := fb_some h
  obtain ⟨p2, A3, h⟩ := fb_some h
  obtain ⟨d2, A4, h⟩ := fb_some h
  obtain ⟨p3, A5, h⟩ := fb_some h
  obtain ⟨z, A6, h⟩ := fb_some h
  obtain ⟨zz, A7, h⟩ := fb_some h
  obtain ⟨h1, A8, h⟩ := fb_some h
  obtain ⟨h2, A9, h⟩ := fb_some h
  obtain ⟨z2, A10, h⟩ := fb_some h
  obtain ⟨a1, A11, h⟩ := fb_some h
  obtain ⟨b1, A12, h⟩ := fb_some h
  obtain ⟨a2, A13, h⟩ := fb_some h
  obtain ⟨b2, A14, h⟩ := fb_some h
  obtain ⟨a3, A15, h⟩ := fb_some h
  obtain ⟨b3, A16, h⟩ := fb_some h
  obtain ⟨a4, A17, h⟩ := fb_some h
  obtain ⟨b4, A18, h⟩ := fb_some h
  obtain ⟨a5, A19, h⟩ := fb_some h
  obtain ⟨b5, A20, h⟩ := fb_some h
  obtain ⟨q, A21, h⟩ := fb_some h
  obtain ⟨v, A22, h⟩ := fb_some h
  injection h with h
  subst h
  exact sin_6 x m p1 d1 p2 d2 p3 z zz h1 h2 z2 a1 b1 a2 b2 a3 b3 a4 b4 a5 b5 q v w F T J A0 A1 A2 A3 A4 A5 A6 A7 A8 A9 A10 A11 A12 A13 A14 A15 A16 A17 A18 A19 A20 A21 A22
/-- math.sin in octant 7. -/
def ch7 (x : Nat) : Option Nat :=
  fb (floatBits .mul .f64 4620693217682128896 4605249456957292544) fun p1 =>
  fb (floatBits .sub .f64 x p1) fun d1 =>
  fb (floatBits .mul .f64 4620693217682128896 4495793288086814720) fun p2 =>
  fb (floatBits .sub .f64 d1 p2) fun d2 =>
  fb (floatBits .mul .f64 4620693217682128896 4388835458085048688) fun p3 =>
  fb (floatBits .sub .f64 d2 p3) fun z =>
  fb (floatBits .mul .f64 z z) fun zz =>
  fb (floatBits .mul .f64 z zz) fun z2 =>
  fb (floatBits .mul .f64 4460209587652500685 zz) fun a1 =>
  fb (floatBits .add .f64 a1 13716528389658582877) fun b1 =>
  fb (floatBits .mul .f64 b1 zz) fun a2 =>
  fb (floatBits .add .f64 a2 4523617212962785441) fun b2 =>
  fb (floatBits .mul .f64 b2 zz) fun a3 =>
  fb (floatBits .add .f64 a3 13774824197404483331) fun b3 =>
  fb (floatBits .mul .f64 b3 zz) fun a4 =>
  fb (floatBits .add .f64 a4 4575957461383575504) fun b4 =>
  fb (floatBits .mul .f64 b4 zz) fun a5 =>
  fb (floatBits .add .f64 a5 13818544856648471880) fun b5 =>
  fb (floatBits .mul .f64 z2 b5) fun q =>
  fb (floatBits .add .f64 z q) fun v =>
  some v
theorem ch7_ok {x m r : Nat} {w : World} (F : Fine x) (T : Tabs w) (A0 : Ar .mul x 4608412980311869571 m) (J : floatToIntVal .f64 m .u64 = some 7) (h : ch7 x = some r) :
    Calls Tryd.prog 67 #[.float .f64 x] w fun e w' => e = .returned (.float .f64 r) ∧ w = w' := by
  unfold ch7 at h
  obtain ⟨p1, A1, h⟩ := fb_some h
  obtain ⟨d1, A2, h⟩ := fb_some h
  obtain ⟨p2, A3, h⟩ := fb_some h
  obtain ⟨d2, A4, h⟩ := fb_some h
  obtain ⟨p3, A5, h⟩ := fb_some h
  obtain ⟨z, A6, h⟩ := fb_some h
  obtain ⟨zz, A7, h⟩ := fb_some h
  obtain ⟨z2, A8, h⟩ := fb_some h
  obtain ⟨a1, A9, h⟩ := fb_some h
  obtain ⟨b1, A10, h⟩ := fb_some h
  obtain ⟨a2, A11, h⟩ := fb_some h
  obtain ⟨b2, A12, h⟩ := fb_some h
  obtain ⟨a3, A13, h⟩ := fb_some h
  obtain ⟨b3, A14, h⟩ := fb_some h
  obtain ⟨a4, A15, h⟩ := fb_some h
  obtain ⟨b4, A16, h⟩ := fb_some h
  obtain ⟨a5, A17, h⟩ := fb_some h
  obtain ⟨b5, A18, h⟩ := fb_some h
  obtain ⟨q, A19, h⟩ := fb_some h
  obtain ⟨v, A20, h⟩ := fb_some h
  injection h with h
  subst h
  exact sin_7 x m p1 d1 p2 d2 p3 z zz z2 a1 b1 a2 b2 a3 b3 a4 b4 a5 b5 q v w F T J A0 A1 A2 A3 A4 A5 A6 A7 A8 A9 A10 A11 A12 A13 A14 A15 A16 A17 A18 A19 A20
def octs (x : Nat) : Nat → Option Nat
  | 0 => ch0 x
  | 1 => ch1 x
  | 2 => ch2 x
  | 3 => ch3 x
  | 4 => ch4 x
  | 5 => ch5 x
  | 6 => ch6 x
  | 7 => ch7 x
  | _ => none
/-- math.sin, where it is told. -/
def sinV (x : Nat) : Option Nat :=
  bif fineB x then fb (floatBits .mul .f64 x 4608412980311869571) fun m => fb ((floatToIntVal .f64 m .u64).map Int.toNat) fun j => bif floatToIntVal .f64 m .u64 == some (j : Int) then octs x j else none else none
theorem sin_of {x r : Nat} {w : World} (T : Tabs w) (h : sinV x = some r) : Calls Tryd.prog 67 #[.float .f64 x] w fun e w' => e = .returned (.float .f64 r) ∧ w = w' := by
  unfold sinV at h
  cases hf : fineB x with
  | false => rw [hf] at h; cases h
  | true =>
    rw [hf] at h
    obtain ⟨m, A0, h⟩ := fb_some (show fb _ _ = some r from h)
    obtain ⟨j, -, h⟩ := fb_some h
    cases hj : (floatToIntVal .f64 m .u64 == some (j : Int)) with
    | false => rw [hj] at h; cases h
    | true =>
      rw [hj] at h
      have h2 : octs x j = some r := h
      have J := eq_of_beq hj
      have F := fine_of hf
      match j, J, h2 with
      | 0, J, h2 => exact ch0_ok F T A0 J h2
      | 1, J, h2 => exact ch1_ok F T A0 J h2
      | 2, J, h2 => exact ch2_ok F T A0 J h2
      | 3, J, h2 => exact ch3_ok F T A0 J h2
      | 4, J, h2 => exact ch4_ok F T A0 J h2
      | 5, J, h2 => exact ch5_ok F T A0 J h2
      | 6, J, h2 => exact ch6_ok F T A0 J h2
      | 7, J, h2 => exact ch7_ok F T A0 J h2
      | _ + 8, _, h2 => cases h2
end Ang
end Go.Proofs.YtkapllakofndlaaDoor
namespace Go.Proofs.YtkapllakofndlaaDoor
open Go.RowKit
namespace Ang
/-- angle.Sin of a normal angle, where it is told. -/
def sinR (n : Nat) : Option Int :=
  fb (floatBits .mul .f64 (floatOfInt .f64 (n : Int)) 4614256656552045848) fun a => fb (floatBits .quo .f64 a 4656722014701092864) fun x =>
  fb (bif Nat.beq x 0 then some 0 else sinV x) fun y => fb (floatBits .mul .f64 4670232813583204352 y) fun m => lt' (roundB m) fun r => floatToIntVal .f64 r .i64
set_option maxRecDepth 100000 in
theorem sin_zero (w : World) : Calls Tryd.prog 67 #[.float .f64 0] w fun e w' => e = .returned (.float .f64 0) ∧ w = w' := by
  have f0 : (FloatKind.f64.format.order 0 0 == some .eq) = true := by kernel_rfl
  go_enter Tryd.func67, Tryd.ntmps67
  go_wp2
  go_ret
  exact ⟨by first | rfl | trivial, rfl⟩
theorem sin_any {x y : Nat} {w : World} (T : Tabs w) (h : (bif Nat.beq x 0 then some 0 else sinV x) = some y) : Calls Tryd.prog 31 #[.float .f64 x] w fun e w' => e = .returned (.float .f64 y) ∧ w = w' := by
  have key : Calls Tryd.prog 67 #[.float .f64 x] w fun e w' => e = .returned (.float .f64 y) ∧ w = w' := by
    cases hx : Nat.beq x 0 with
    | true =>
      rw [hx] at h
      have e := Nat.eq_of_beq_eq_true hx
      subst e
      injection h with h
      rw [← h]
      exact sin_zero w
    | false =>
      rw [hx] at h
      exact sin_of T h
  have K := Lib.hid key; clear key h
  go_enter Tryd.func31, Tryd.ntmps31
  go_wp2_with fail
  (with_reducible refine K.out.mono ?_); rintro e w1 ⟨rfl, rfl⟩
  go_wp2_with fail
  go_ret
  exact ⟨by first | rfl | trivial, rfl⟩
set_option maxRecDepth 100000 in
theorem sinC {h : Int} {n : Nat} {v : Int} {w : World} (T : Tabs w) (hn : h % 4096 = (n : Int)) (hr : sinR n = some v) : Calls Tryd.prog 14 #[.int .i64 h] w fun e w' => e = .returned (.int .i64 v) ∧ w = w' := by
  unfold sinR at hr
  obtain ⟨a, A1, hr⟩ := fb_some hr
  obtain ⟨x, A2, hr⟩ := fb_some hr
  obtain ⟨y, A3, hr⟩ := fb_some hr
  obtain ⟨m, A4, hr⟩ := fb_some hr
  rw [lt_eq] at hr
  have S := Lib.hid (sin_any T A3)
  have r1 := ar_run (op := .mul) A1
  have r2 := ar_run (op := .quo) A2
  have r4 := ar_run (op := .mul) A4
  have rn : ∀ w, (convert 3 69 (.int .i64 (n : Int))).run Tryd.prog w = .ok (.float .f64 (floatOfInt .f64 (n : Int))) w := fun w => run_convert_int_float w _ _ .i64 .f64 (n : Int) (by rw [Tryd.underlying3]; rfl) Tryd.underlying69
  have rc : ∀ w, (convert 69 3 (.float .f64 (roundB m))).run Tryd.prog w = .ok (.int .i64 v) w := fun w => run_convert_float_int w _ _ .f64 .i64 (roundB m) v (by rw [Tryd.underlying69]; rfl) Tryd.underlying3 hr
  have N := Lib.hid (norm_w h w)
  rw [hn] at N
  have R := Lib.hid (round_w m w)
  generalize roundB m = rb at *
  generalize floatOfInt .f64 (n : Int) = fn at *
  clear A1 A2 A3 A4 hr T hn
  go_enter Tryd.func14, Tryd.ntmps14
  go_wp2_with fail
  (with_reducible refine N.out.mono ?_); rintro e w1 ⟨rfl, rfl⟩
  go_wp2_with fail
  (with_reducible refine S.out.mono ?_); rintro e w1 ⟨rfl, rfl⟩
  go_wp2_with fail
  (with_reducible refine R.out.mono ?_); rintro e w1 ⟨rfl, rfl⟩
  go_wp2_with fail
  go_ret
  exact ⟨by first | rfl | trivial, rfl⟩
theorem cosC {h : Int} {n : Nat} {v : Int} {w : World} (T : Tabs w) (hn : (h + 1024) % 4096 = (n : Int)) (hr : sinR n = some v) : Calls Tryd.prog 15 #[.int .i64 h] w fun e w' => e = .returned (.int .i64 v) ∧ w = w' := by
  have N := Lib.hid (norm_w h w)
  obtain ⟨k, hk⟩ : ∃ k, k = h % 4096 := ⟨_, rfl⟩
  rw [← hk] at N
  have b1 : 0 ≤ k ∧ k < 4096 := by omega
  have S := Lib.hid (sinC (h := k + 1024) T (show (k + 1024) % 4096 = (n : Int) by omega) hr)
  clear T hn hr hk
  go_enter Tryd.func15, Tryd.ntmps15
  go_wp2_with fail
  (with_reducible refine N.out.mono ?_); rintro e w1 ⟨rfl, rfl⟩
  go_wp2_with fail
  (with_reducible refine S.out.mono ?_); rintro e w1 ⟨rfl, rfl⟩
  go_wp2_with fail
  go_ret
  exact ⟨by first | rfl | trivial, rfl⟩
/-- angle.Diff. -/
def dif (a b : Int) : Int := if 2048 < (b - a) % 4096 then (b - a) % 4096 - 4096 else (b - a) % 4096
theorem wrap_mod (x : Int) : wrap64 x % 4096 = x % 4096 := by unfold wrap64; omega
theorem difC (a b : Int) (w : World) : Calls Tryd.prog 17 #[.int .i64 a, .int .i64 b] w fun e w' => e = .returned (.int .i64 (dif a b)) ∧ w = w' := by
  have N := Lib.hid (norm_w (wrap64 (b - a)) w)
  rw [wrap_mod] at N
  obtain ⟨R, hR⟩ : ∃ R, R = dif a b := ⟨_, rfl⟩
  rw [← hR]
  unfold dif at hR
  obtain ⟨k, hk⟩ : ∃ k, k = (b - a) % 4096 := ⟨_, rfl⟩
  rw [← hk] at N hR
  have b1 : 0 ≤ k ∧ k < 4096 := by omega
  have HR := Lib.hid hR
  clear hR hk
  go_enter Tryd.func17, Tryd.ntmps17
  go_wp2_with fail
  (with_reducible refine N.out.mono ?_); rintro e w1 ⟨rfl, rfl⟩
  by_cases h : 2048 < k
  · have e := HR.out
    rw [if_pos h] at e
    clear HR
    go_wp2_with fail
    go_ret
    exact ⟨Kit.ret1 (by omega), rfl⟩
  · have e := HR.out
    rw [if_neg h] at e
    clear HR
    go_wp2_with fail
    go_ret
    exact ⟨Kit.ret1 (by omega), rfl⟩
theorem sin1024 : sinR 1024 = some 16384 := by kernel_rfl
theorem sin3072 : sinR 3072 = some (-16384) := by kernel_rfl
theorem works (w : World) (T : Tabs w) : Calls Tryd.prog 13 #[] w fun e w' => e = .returned (.bool true) ∧ w = w' := by
  have D := Lib.hid (difC 4090 10 w)
  have e1 : dif 4090 10 = 16 := by decide
  rw [e1] at D
  have N := Lib.hid (norm_w (-1) w)
  have e2 : (-1 : Int) % 4096 = 4095 := by decide
  rw [e2] at N
  have S := Lib.hid (sinC (h := 1024) (n := 1024) T (by decide) sin1024)
  have C := Lib.hid (cosC (h := 2048) (n := 3072) T (by decide) sin3072)
  clear e1 e2 T
  go_enter Tryd.func13, Tryd.ntmps13
  go_wp2_with fail
  (with_reducible refine D.out.mono ?_); rintro e w1 ⟨rfl, rfl⟩
  go_wp2_with fail
  (with_reducible refine N.out.mono ?_); rintro e w1 ⟨rfl, rfl⟩
  go_wp2_with fail
  (with_reducible refine S.out.mono ?_); rintro e w1 ⟨rfl, rfl⟩
  go_wp2_with fail
  (with_reducible refine C.out.mono ?_); rintro e w1 ⟨rfl, rfl⟩
  go_wp2_with fail
  go_ret
  exact ⟨by first | rfl | exact Kit.retb rfl, rfl⟩
end Ang
end Go.Proofs.YtkapllakofndlaaDoor
