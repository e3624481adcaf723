/- What tube.Has returns. -/
import Derived.Test.YteaccanhahmclaaTubeT
namespace Go.Proofs.Yteaccanhahmclaa
open Go.RowKit
namespace Tube
open Kit Plane
theorem ret_bi {a b : Bool} {c : Int} (h : a = b) : Ending.returned (.tuple #[.bool a, .int .i64 c]) = .returned (.tuple #[.bool b, .int .i64 c]) := by rw [h]
set_option maxHeartbeats 1000000 in
theorem Has_bad (v : Value) (u qx qy hh : Int) (E : Int) (w : World) (A : Hid (∀ w1, Below w.heap.size w w1 → Calls Try.prog 35 #[v, .int .i64 u] w1 fun e w' => e = .returned (.tuple #[.agg #[.int .i64 0, .int .i64 0, .int .i64 0, .int .i64 0, .int .i64 0, .int .i64 0], .int .i64 E]) ∧ Below w1.heap.size w1 w')) (_hE1 : (E == 0) = false) (hE2 : (E != 0) = true) :
    Calls Try.prog 79 #[v, .int .i64 u, .agg #[.int .i64 qx, .int .i64 qy], .int .i64 hh] w fun e w' => e = .returned (.tuple #[.bool false, .int .i64 E]) ∧ Below w.heap.size w w' := by
  go_enter Try.func79, Try.ntmps79
  have HP := Lib.hid (p2_new w 43 qx qy)
  have HW := Lib.hid (b_alloc (Below.refl w.heap.size w) (.cells #[.int .i64 qx, .int .i64 qy] 43))
  go_wp2_with fail
  (with_reducible refine (A.out _ HW.out).mono ?_); rintro e w1 ⟨rfl, h⟩
  have hp1 := p2_keep h HP.out; have hw1 := b_next HW.out h; clear h
  have nn := new_ne hp1.1
  have X1 := Lib.hid (d6_new w1 70 (0) (0) (0) (0) (0) (0))
  have X2 := Lib.hid (p2_alloc (.cells #[.int .i64 0, .int .i64 0, .int .i64 0, .int .i64 0, .int .i64 0, .int .i64 0] 70) hp1); have X3 := Lib.hid (b_alloc hw1 (.cells #[.int .i64 0, .int .i64 0, .int .i64 0, .int .i64 0, .int .i64 0, .int .i64 0] 70))
  go_wp2_with fail
  go_ret2
  exact ⟨rfl, X3.out⟩
set_option maxHeartbeats 1000000 in
theorem Has_pt (v : Value) (u qx qy hh : Int) (t px py ph pr pb : Int) (w : World) (A : Hid (∀ w1, Below w.heap.size w w1 → Calls Try.prog 35 #[v, .int .i64 u] w1 fun e w' => e = .returned (.tuple #[.agg #[.int .i64 t, .int .i64 px, .int .i64 py, .int .i64 ph, .int .i64 pr, .int .i64 pb], .int .i64 0]) ∧ Below w1.heap.size w1 w')) (C : Hid (Chk qx qy 4)) :
    Calls Try.prog 79 #[v, .int .i64 u, .agg #[.int .i64 qx, .int .i64 qy], .int .i64 hh] w fun e w' => e = .returned (.tuple #[.bool false, .int .i64 4]) ∧ Below w.heap.size w w' := by
  go_enter Try.func79, Try.ntmps79
  have HP := Lib.hid (p2_new w 43 qx qy)
  have HW := Lib.hid (b_alloc (Below.refl w.heap.size w) (.cells #[.int .i64 qx, .int .i64 qy] 43))
  go_wp2_with fail
  (with_reducible refine (A.out _ HW.out).mono ?_); rintro e w1 ⟨rfl, h⟩
  have hp1 := p2_keep h HP.out; have hw1 := b_next HW.out h; clear h
  have nn := new_ne hp1.1
  have X1 := Lib.hid (d6_new w1 70 (t) (px) (py) (ph) (pr) (pb))
  have X2 := Lib.hid (p2_alloc (.cells #[.int .i64 t, .int .i64 px, .int .i64 py, .int .i64 ph, .int .i64 pr, .int .i64 pb] 70) hp1); have X3 := Lib.hid (b_alloc hw1 (.cells #[.int .i64 t, .int .i64 px, .int .i64 py, .int .i64 ph, .int .i64 pr, .int .i64 pb] 70))
  go_wp2_with fail
  (with_reducible refine (C.out _).mono ?_); rintro e w2 ⟨rfl, h⟩
  have hq := p2_keep h X2.out; have hd := d6_keep h X1.out; have hw := b_next X3.out h; clear h
  go_wp2_with fail
  go_ret2
  exact ⟨rfl, hw⟩
set_option maxHeartbeats 1000000 in
theorem Has_h (v : Value) (u qx qy hh : Int) (t px py ph pr pb : Int) (w : World) (A : Hid (∀ w1, Below w.heap.size w w1 → Calls Try.prog 35 #[v, .int .i64 u] w1 fun e w' => e = .returned (.tuple #[.agg #[.int .i64 t, .int .i64 px, .int .i64 py, .int .i64 ph, .int .i64 pr, .int .i64 pb], .int .i64 0]) ∧ Below w1.heap.size w1 w')) (C : Hid (Chk qx qy 0)) (hx : hh < 0 ∨ 60000 < hh) :
    Calls Try.prog 79 #[v, .int .i64 u, .agg #[.int .i64 qx, .int .i64 qy], .int .i64 hh] w fun e w' => e = .returned (.tuple #[.bool false, .int .i64 4]) ∧ Below w.heap.size w w' := by
  go_enter Try.func79, Try.ntmps79
  have HP := Lib.hid (p2_new w 43 qx qy)
  have HW := Lib.hid (b_alloc (Below.refl w.heap.size w) (.cells #[.int .i64 qx, .int .i64 qy] 43))
  go_wp2_with fail
  (with_reducible refine (A.out _ HW.out).mono ?_); rintro e w1 ⟨rfl, h⟩
  have hp1 := p2_keep h HP.out; have hw1 := b_next HW.out h; clear h
  have nn := new_ne hp1.1
  have X1 := Lib.hid (d6_new w1 70 (t) (px) (py) (ph) (pr) (pb))
  have X2 := Lib.hid (p2_alloc (.cells #[.int .i64 t, .int .i64 px, .int .i64 py, .int .i64 ph, .int .i64 pr, .int .i64 pb] 70) hp1); have X3 := Lib.hid (b_alloc hw1 (.cells #[.int .i64 t, .int .i64 px, .int .i64 py, .int .i64 ph, .int .i64 pr, .int .i64 pb] 70))
  go_wp2_with fail
  (with_reducible refine (C.out _).mono ?_); rintro e w2 ⟨rfl, h⟩
  have hq := p2_keep h X2.out; have hd := d6_keep h X1.out; have hw := b_next X3.out h; clear h
  go_wp2_with fail
  all_goals first | (exfalso; omega) | (go_ret2; exact ⟨rfl, hw⟩)
set_option maxHeartbeats 1000000 in
theorem Has_ok (v : Value) (u qx qy hh : Int) (t px py ph pr pb : Int) (iw : Bool) (w : World) (A : Hid (∀ w1, Below w.heap.size w w1 → Calls Try.prog 35 #[v, .int .i64 u] w1 fun e w' => e = .returned (.tuple #[.agg #[.int .i64 t, .int .i64 px, .int .i64 py, .int .i64 ph, .int .i64 pr, .int .i64 pb], .int .i64 0]) ∧ Below w1.heap.size w1 w')) (C : Hid (Chk qx qy 0)) (h0 : 0 ≤ hh) (h1 : hh ≤ 60000) (b1 : 0 ≤ ph ∧ ph ≤ 60000) (W : Hid (∀ w, Calls Try.prog 132 #[.agg #[.int .i64 px, .int .i64 py], .agg #[.int .i64 qx, .int .i64 qy], .int .i64 pr] w fun e w' => e = .returned (.bool iw) ∧ Below w.heap.size w w')) :
    Calls Try.prog 79 #[v, .int .i64 u, .agg #[.int .i64 qx, .int .i64 qy], .int .i64 hh] w fun e w' => e = .returned (.tuple #[.bool (iw && decide (max (ph - hh) (hh - ph) ≤ pb)), .int .i64 0]) ∧ Below w.heap.size w w' := by
  go_enter Try.func79, Try.ntmps79
  have HP := Lib.hid (p2_new w 43 qx qy)
  have HW := Lib.hid (b_alloc (Below.refl w.heap.size w) (.cells #[.int .i64 qx, .int .i64 qy] 43))
  go_wp2_with fail
  (with_reducible refine (A.out _ HW.out).mono ?_); rintro e w1 ⟨rfl, h⟩
  have hp1 := p2_keep h HP.out; have hw1 := b_next HW.out h; clear h
  have nn := new_ne hp1.1
  have X1 := Lib.hid (d6_new w1 70 (t) (px) (py) (ph) (pr) (pb))
  have X2 := Lib.hid (p2_alloc (.cells #[.int .i64 t, .int .i64 px, .int .i64 py, .int .i64 ph, .int .i64 pr, .int .i64 pb] 70) hp1); have X3 := Lib.hid (b_alloc hw1 (.cells #[.int .i64 t, .int .i64 px, .int .i64 py, .int .i64 ph, .int .i64 pr, .int .i64 pb] 70))
  go_wp2_with fail
  (with_reducible refine (C.out _).mono ?_); rintro e w2 ⟨rfl, h⟩
  have hq := p2_keep h X2.out; have hd := d6_keep h X1.out; have hw := b_next X3.out h; clear h
  go_wp2_with fail
  cases iw
  all_goals
    (with_reducible refine (W.out _).mono ?_); rintro e w3 ⟨rfl, h⟩
    replace hd := d6_keep h hd; replace hw := b_next hw h; clear h hq
    go_wp2_with fail
    all_goals (go_ret2; refine ⟨?_, hw⟩; first | rfl | exact ret_bi (by rw [Bool.eq_iff_iff]; simp; omega))
end Tube
end Go.Proofs.Yteaccanhahmclaa
