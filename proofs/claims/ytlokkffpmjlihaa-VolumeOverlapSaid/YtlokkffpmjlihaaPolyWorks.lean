/- The fixed example of chapter 6 is true. -/
import Derived.Test.YtlokkffpmjlihaaPolyG
namespace Go.Proofs.Ytlokkffpmjlihaa
open Go.RowKit
namespace Poly
open Kit Plane
def wX (k : Nat) : Int := if k = 1 ∨ k = 2 then 4 else 0
def wY (k : Nat) : Int := if k = 2 ∨ k = 3 then 4 else 0
theorem works_4 : apart 4 wX wY 7 8 4 = (true, 0) := by decide +kernel
theorem works_5 : apart 4 wX wY 7 8 5 = (false, 0) := by decide +kernel
set_option maxHeartbeats 2000000 in
theorem polygonWorks (w : World) : Calls Try.prog 32 #[] w fun e w' => e = .returned (.bool true) ∧ Below w.heap.size w w' := by
  have hv : ∀ w1, Below (w.alloc (.cells #[.int .i64 0, .int .i64 0, .int .i64 4, .int .i64 0, .int .i64 4, .int .i64 4, .int .i64 0, .int .i64 4] 34)).heap.size (w.alloc (.cells #[.int .i64 0, .int .i64 0, .int .i64 4, .int .i64 0, .int .i64 4, .int .i64 4, .int .i64 0, .int .i64 4] 34)) w1 → QV w1 (.slice (some ⟨w.heap.size, 0, none⟩) 4 4) 4 wX wY := fun w1 hb =>
    qv_keep hb (Or.inr ⟨by omega, w.heap.size, 0, 4, rfl, by omega, by decide, fun k hk => by
      rcases (show k = 0 ∨ k = 1 ∨ k = 2 ∨ k = 3 from by omega) with rfl | rfl | rfl | rfl <;> exact ⟨by simp [wX], by simp [wY]⟩⟩)
  have c4 := fun w1 hb => apartC (hv w1 hb) 7 8 4
  have c5 := fun w1 hb => apartC (hv w1 hb) 7 8 5
  rw [works_4] at c4; rw [works_5] at c5
  have C4 := Lib.hid c4; have C5 := Lib.hid c5; clear c4 c5 hv
  have HW := Lib.hid (b_alloc (Below.refl w.heap.size w) (.cells #[.int .i64 0, .int .i64 0, .int .i64 4, .int .i64 0, .int .i64 4, .int .i64 4, .int .i64 0, .int .i64 4] 34))
  go_enter Try.func32, Try.ntmps32
  go_wp2_with fail
  refine (C4.out _ (Below.refl _ _)).mono ?_; rintro e w1 ⟨rfl, h1⟩
  go_wp2_with fail
  refine (C5.out _ h1).mono ?_; rintro e w2 ⟨rfl, h2⟩
  have hw := b_next HW.out (b_next h1 h2); clear h1 h2
  go_wp2_with fail
  go_ret
  exact ⟨retb rfl, hw⟩
end Poly
end Go.Proofs.Ytlokkffpmjlihaa
