/- angle.Of: its contract; a vector that is turned by a right angle. -/
import Derived.Test.YtkapllakofndlaaDoorOfW
namespace Go.Proofs.YtkapllakofndlaaDoor
open Go.RowKit
namespace Ang
open Kit
set_option maxRecDepth 100000 in
set_option maxHeartbeats 1000000 in
theorem of_far (x y : Int) (w : World) (h : ¬ (InR x ∧ InR y)) : Calls Tryd.prog 18 #[.agg #[.int .i64 x, .int .i64 y]] w fun e w' => e = .returned (.tuple #[.int .i64 0, .int .i64 4]) ∧ Below w.heap.size w w' := by
  by_cases h1 : x < -2000000
  · have q1 := decide_eq_true h1
    go_enter Tryd.func18, Tryd.ntmps18
    go_wp2_with fail
    all_goals first | (exfalso; omega) | (go_ret2; exact ⟨rfl, b_alloc (Below.refl _ _) _⟩)
  · have q1 := decide_eq_false h1
    by_cases h2 : 2000000 < x
    · have q2 := decide_eq_true h2
      go_enter Tryd.func18, Tryd.ntmps18
      go_wp2_with fail
      all_goals first | (exfalso; omega) | (go_ret2; exact ⟨rfl, b_alloc (Below.refl _ _) _⟩)
    · have q2 := decide_eq_false h2
      by_cases h3 : y < -2000000
      · have q3 := decide_eq_true h3
        go_enter Tryd.func18, Tryd.ntmps18
        go_wp2_with fail
        all_goals first | (exfalso; omega) | (go_ret2; exact ⟨rfl, b_alloc (Below.refl _ _) _⟩)
      · have q3 := decide_eq_false h3
        have h4 : 2000000 < y := by unfold InR at h; omega
        have q4 := decide_eq_true h4
        go_enter Tryd.func18, Tryd.ntmps18
        go_wp2_with fail
        all_goals first | (exfalso; omega) | (go_ret2; exact ⟨rfl, b_alloc (Below.refl _ _) _⟩)
set_option maxRecDepth 100000 in
theorem of_zero (w : World) : Calls Tryd.prog 18 #[.agg #[.int .i64 0, .int .i64 0]] w fun e w' => e = .returned (.tuple #[.int .i64 0, .int .i64 10]) ∧ Below w.heap.size w w' := by
  go_enter Tryd.func18, Tryd.ntmps18
  go_wp2_with fail
  all_goals first | (exfalso; omega) | (go_ret2; exact ⟨rfl, b_alloc (Below.refl _ _) _⟩)
theorem F_quart (x y h : Int) : F y (-x) (h + 1024) = F x y h := by
  unfold F
  rw [show h + 1024 + 1024 = h + 2048 from by omega, sn_half]; grind
theorem ofv_turn {x y r : Int} (h : OfV x y r) : OfV y (-x) ((r + 1024) % 4096) := by
  obtain ⟨a, a1, a2, a3, a4⟩ := h
  have e1 : F y (-x) ((a + 1024) % 4096) = F x y a := by rw [← F_quart x y a]; exact F_mod (by omega)
  have e2 : F y (-x) ((a + 1024) % 4096 + 1) = F x y (a + 1) := by rw [← F_quart x y (a + 1)]; exact F_mod (by omega)
  refine ⟨(a + 1024) % 4096, by omega, by omega, ?_, ?_⟩
  · unfold Sec at *; rw [e1, e2]; exact a3
  · rw [e1, e2, a4]; split <;> omega
end Ang
end Go.Proofs.YtkapllakofndlaaDoor
