/- What fly.Profile returns. -/
import Derived.Test.YtddlacjjanincaaDoorKind
import Derived.Test.YtddlacjjanincaaDoorDraw
namespace Go.Proofs.YtddlacjjanincaaDoor
open Go.RowKit
namespace Kind
open Kit Name
/-- fly.Profile's answer for a type that Check accepts. -/
def prof (ceil climb desc height total t : Int) : Int × Int :=
  if ceil < height then (0, 20) else if height < 0 ∨ 60000 < height ∨ total < 0 ∨ 200000 < total ∨ t < 0 ∨ total < t then (0, 4) else (min height (min (climb * t) (desc * (total - t))), 0)
abbrev KindC (s : ByteArray) (wake ceil climb desc slow fast E : Int) : Prop := ∀ w, Calls Tryd.prog 14 #[.agg #[.string s, .int .i64 wake, .int .i64 ceil, .int .i64 climb, .int .i64 desc, .int .i64 slow, .int .i64 fast]] w fun e w' => e = .returned (.int .i64 E) ∧ Below w.heap.size w w'
theorem mul_bd {a b A B : Int} (h0 : 0 ≤ a) (h1 : a ≤ A) (h2 : 0 ≤ b) (h3 : b ≤ B) : 0 ≤ a * b ∧ a * b ≤ A * B :=
  ⟨Int.mul_nonneg h0 h2, Int.mul_le_mul h1 h3 h2 (by omega)⟩
/-- fly.Profile's answer. -/
def profE (s : ByteArray) (wake ceil climb desc slow fast height total t : Int) : Int × Int :=
  if kchk s wake ceil climb desc slow fast = 0 then prof ceil climb desc height total t else (0, kchk s wake ceil climb desc slow fast)
theorem kchk_ok {s : ByteArray} {wake ceil climb desc slow fast : Int} (h : kchk s wake ceil climb desc slow fast = 0) :
    nameB s = true ∧ (0 ≤ wake ∧ wake ≤ 3) ∧ (1 ≤ ceil ∧ ceil ≤ 60000) ∧ (1 ≤ climb ∧ climb ≤ 200) ∧ (1 ≤ desc ∧ desc ≤ 200) ∧ (1 ≤ slow ∧ slow ≤ 400) ∧ (1 ≤ fast ∧ fast ≤ 400) ∧ slow ≤ fast := by
  unfold kchk outB at h
  simp only [decide_eq_true_eq] at h
  split at h
  · omega
  · rename_i h0
    split at h
    · omega
    · split at h
      · omega
      · split at h
        · omega
        · exact ⟨by simpa using h0, by omega, by omega, by omega, by omega, by omega, by omega, by omega⟩
end Kind
end Go.Proofs.YtddlacjjanincaaDoor
