/- angle.Sin, Cos, Diff: what they return. -/
import Derived.Test.YtkapllakofndlaaDoorSinW
namespace Go.Proofs.YtkapllakofndlaaDoor
open Go.RowKit
namespace Ang
/-- angle.Sin of a normal angle, where it is told. -/
def sinR (n : Nat) : Option Int :=
  fb (floatBits .mul .f64 (floatOfInt .f64 (n : Int)) 4614256656552045848) fun a => fb (floatBits .quo .f64 a 4656722014701092864) fun x =>
  fb (bif Nat.beq x 0 then some 0 else sinV x) fun y => fb (floatBits .mul .f64 4670232813583204352 y) fun m => lt' (roundB m) fun r => floatToIntVal .f64 r .i64
set_option maxRecDepth 100000 in
theorem sin_zero (w : World) : Calls Tryd.prog 67 #[.float .f64 0] w fun e w' => e = .returned (.float .f64 0) ∧ w = w' := by
  have f0 : (FloatKind.f64.format.order 0 0 == some .eq) = true := by kernel_rfl
  go_enter Tryd.func67, Tryd.ntmps67
  go_wp2
  go_ret
  exact ⟨by first | rfl | trivial, rfl⟩
theorem sin_any {x y : Nat} {w : World} (T : Tabs w) (h : (bif Nat.beq x 0 then some 0 else sinV x) = some y) : Calls Tryd.prog 31 #[.float .f64 x] w fun e w' => e = .returned (.float .f64 y) ∧ w = w' := by
  have key : Calls Tryd.prog 67 #[.float .f64 x] w fun e w' => e = .returned (.float .f64 y) ∧ w = w' := by
    cases hx : Nat.beq x 0 with
    | true =>
      rw [hx] at h
      have e := Nat.eq_of_beq_eq_true hx
      subst e
      injection h with h
      rw [← h]
      exact sin_zero w
    | false =>
      rw [hx] at h
      exact sin_of T h
  have K := Lib.hid key; clear key h
  go_enter Tryd.func31, Tryd.ntmps31
  go_wp2_with fail
  (with_reducible refine K.out.mono ?_); rintro e w1 ⟨rfl, rfl⟩
  go_wp2_with fail
  go_ret
  exact ⟨by first | rfl | trivial, rfl⟩
set_option maxRecDepth 100000 in
theorem sinC {h : Int} {n : Nat} {v : Int} {w : World} (T : Tabs w) (hn : h % 4096 = (n : Int)) (hr : sinR n = some v) : Calls Tryd.prog 14 #[.int .i64 h] w fun e w' => e = .returned (.int .i64 v) ∧ w = w' := by
  unfold sinR at hr
  obtain ⟨a, A1, hr⟩ := fb_some hr
  obtain ⟨x, A2, hr⟩ := fb_some hr
  obtain ⟨y, A3, hr⟩ := fb_some hr
  obtain ⟨m, A4, hr⟩ := fb_some hr
  rw [lt_eq] at hr
  have S := Lib.hid (sin_any T A3)
  have r1 := ar_run (op := .mul) A1
  have r2 := ar_run (op := .quo) A2
  have r4 := ar_run (op := .mul) A4
  have rn : ∀ w, (convert 3 69 (.int .i64 (n : Int))).run Tryd.prog w = .ok (.float .f64 (floatOfInt .f64 (n : Int))) w := fun w => run_convert_int_float w _ _ .i64 .f64 (n : Int) (by rw [Tryd.underlying3]; rfl) Tryd.underlying69
  have rc : ∀ w, (convert 69 3 (.float .f64 (roundB m))).run Tryd.prog w = .ok (.int .i64 v) w := fun w => run_convert_float_int w _ _ .f64 .i64 (roundB m) v (by rw [Tryd.underlying69]; rfl) Tryd.underlying3 hr
  have N := Lib.hid (norm_w h w)
  rw [hn] at N
  have R := Lib.hid (round_w m w)
  generalize roundB m = rb at *
  generalize floatOfInt .f64 (n : Int) = fn at *
  clear A1 A2 A3 A4 hr T hn
  go_enter Tryd.func14, Tryd.ntmps14
  go_wp2_with fail
  (with_reducible refine N.out.mono ?_); rintro e w1 ⟨rfl, rfl⟩
  go_wp2_with fail
  (with_reducible refine S.out.mono ?_); rintro e w1 ⟨rfl, rfl⟩
  go_wp2_with fail
  (with_reducible refine R.out.mono ?_); rintro e w1 ⟨rfl, rfl⟩
  go_wp2_with fail
  go_ret
  exact ⟨by first | rfl | trivial, rfl⟩
theorem cosC {h : Int} {n : Nat} {v : Int} {w : World} (T : Tabs w) (hn : (h + 1024) % 4096 = (n : Int)) (hr : sinR n = some v) : Calls Tryd.prog 15 #[.int .i64 h] w fun e w' => e = .returned (.int .i64 v) ∧ w = w' := by
  have N := Lib.hid (norm_w h w)
  obtain ⟨k, hk⟩ : ∃ k, k = h % 4096 := ⟨_, rfl⟩
  rw [← hk] at N
  have b1 : 0 ≤ k ∧ k < 4096 := by omega
  have S := Lib.hid (sinC (h := k + 1024) T (show (k + 1024) % 4096 = (n : Int) by omega) hr)
  clear T hn hr hk
  go_enter Tryd.func15, Tryd.ntmps15
  go_wp2_with fail
  (with_reducible refine N.out.mono ?_); rintro e w1 ⟨rfl, rfl⟩
  go_wp2_with fail
  (with_reducible refine S.out.mono ?_); rintro e w1 ⟨rfl, rfl⟩
  go_wp2_with fail
  go_ret
  exact ⟨by first | rfl | trivial, rfl⟩
/-- angle.Diff. -/
def dif (a b : Int) : Int := if 2048 < (b - a) % 4096 then (b - a) % 4096 - 4096 else (b - a) % 4096
theorem wrap_mod (x : Int) : wrap64 x % 4096 = x % 4096 := by unfold wrap64; omega
theorem difC (a b : Int) (w : World) : Calls Tryd.prog 17 #[.int .i64 a, .int .i64 b] w fun e w' => e = .returned (.int .i64 (dif a b)) ∧ w = w' := by
  have N := Lib.hid (norm_w (wrap64 (b - a)) w)
  rw [wrap_mod] at N
  obtain ⟨R, hR⟩ : ∃ R, R = dif a b := ⟨_, rfl⟩
  rw [← hR]
  unfold dif at hR
  obtain ⟨k, hk⟩ : ∃ k, k = (b - a) % 4096 := ⟨_, rfl⟩
  rw [← hk] at N hR
  have b1 : 0 ≤ k ∧ k < 4096 := by omega
  have HR := Lib.hid hR
  clear hR hk
  go_enter Tryd.func17, Tryd.ntmps17
  go_wp2_with fail
  (with_reducible refine N.out.mono ?_); rintro e w1 ⟨rfl, rfl⟩
  by_cases h : 2048 < k
  · have e := HR.out
    rw [if_pos h] at e
    clear HR
    go_wp2_with fail
    go_ret
    exact ⟨Kit.ret1 (by omega), rfl⟩
  · have e := HR.out
    rw [if_neg h] at e
    clear HR
    go_wp2_with fail
    go_ret
    exact ⟨Kit.ret1 (by omega), rfl⟩
theorem sin1024 : sinR 1024 = some 16384 := by kernel_rfl
theorem sin3072 : sinR 3072 = some (-16384) := by kernel_rfl
theorem works (w : World) (T : Tabs w) : Calls Tryd.prog 13 #[] w fun e w' => e = .returned (.bool true) ∧ w = w' := by
  have D := Lib.hid (difC 4090 10 w)
  have e1 : dif 4090 10 = 16 := by decide
  rw [e1] at D
  have N := Lib.hid (norm_w (-1) w)
  have e2 : (-1 : Int) % 4096 = 4095 := by decide
  rw [e2] at N
  have S := Lib.hid (sinC (h := 1024) (n := 1024) T (by decide) sin1024)
  have C := Lib.hid (cosC (h := 2048) (n := 3072) T (by decide) sin3072)
  clear e1 e2 T
  go_enter Tryd.func13, Tryd.ntmps13
  go_wp2_with fail
  (with_reducible refine D.out.mono ?_); rintro e w1 ⟨rfl, rfl⟩
  go_wp2_with fail
  (with_reducible refine N.out.mono ?_); rintro e w1 ⟨rfl, rfl⟩
  go_wp2_with fail
  (with_reducible refine S.out.mono ?_); rintro e w1 ⟨rfl, rfl⟩
  go_wp2_with fail
  (with_reducible refine C.out.mono ?_); rintro e w1 ⟨rfl, rfl⟩
  go_wp2_with fail
  go_ret
  exact ⟨by first | rfl | exact Kit.retb rfl, rfl⟩
end Ang
end Go.Proofs.YtkapllakofndlaaDoor
