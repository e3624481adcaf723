/- What the small functions of package polygon return: between, on, crosses, Common, next. -/
import Derived.Test.YteaccanhahmclaaToward
import Derived.Test.YteaccanhahmclaaKit2
namespace Go.Proofs.Yteaccanhahmclaa
open Go.RowKit
namespace Poly
open Kit Plane
/-- All of these are at most a million (or a thousand million) away from 0. -/
abbrev B9 (x : Int) : Prop := -1000000000 ≤ x ∧ x ≤ 1000000000
def btw (ax ay bx by' cx cy : Int) : Bool := decide (min ax bx ≤ cx ∧ cx ≤ max ax bx ∧ min ay by' ≤ cy ∧ cy ≤ max ay by')
set_option maxHeartbeats 1000000 in
theorem between (ax ay bx by' cx cy : Int) (w : World) :
    Calls Try.prog 182 #[.agg #[.int .i64 ax, .int .i64 ay], .agg #[.int .i64 bx, .int .i64 by'], .agg #[.int .i64 cx, .int .i64 cy]] w fun e w' => e = .returned (.bool (btw ax ay bx by' cx cy)) ∧ Below w.heap.size w w' := by
  go_enter Try.func182, Try.ntmps182
  go_wp2_with fail
  all_goals (go_ret; exact ⟨retb (by unfold btw; first | exact (decide_eq_true (by omega)).symm | exact (decide_eq_false (by omega)).symm | (rw [Bool.eq_iff_iff]; simp; omega)), b_alloc (b_alloc (b_alloc (Below.refl _ _) _) _) _⟩)
/-- c lies on the segment from a to b. -/
def onB (ax ay bx by' cx cy : Int) : Bool := decide (crs ax ay bx by' cx cy = 0) && btw ax ay bx by' cx cy
theorem sgn_eq0 {n : Int} : sgn n = 0 ↔ n = 0 := by unfold sgn; split <;> (try split) <;> omega
abbrev BtC (ax ay bx by' cx cy : Int) (b : Bool) : Prop := ∀ w, Calls Try.prog 182 #[.agg #[.int .i64 ax, .int .i64 ay], .agg #[.int .i64 bx, .int .i64 by'], .agg #[.int .i64 cx, .int .i64 cy]] w fun e w' => e = .returned (.bool b) ∧ Below w.heap.size w w'
abbrev TuC (ax ay bx by' cx cy t : Int) : Prop := ∀ w, Calls Try.prog 149 #[.agg #[.int .i64 ax, .int .i64 ay], .agg #[.int .i64 bx, .int .i64 by'], .agg #[.int .i64 cx, .int .i64 cy]] w fun e w' => e = .returned (.int .i64 t) ∧ Below w.heap.size w w'
theorem p2_new3 (w : World) (o o' o'' : Obj) (t : TypeId) (x y : Int) : P2 ((((w.alloc o).alloc o').alloc o'').alloc (.cells #[.int .i64 x, .int .i64 y] t)) (w.heap.size + 1 + 1 + 1) x y := by
  have h := p2_new2 (w.alloc o) o' o'' t x y; rw [World.size_alloc] at h; exact h
set_option maxHeartbeats 1000000 in
theorem on_w (ax ay bx by' cx cy t : Int) (q : Bool) (w : World) (T : Hid (TuC ax ay bx by' cx cy t)) (Q : Hid (BtC ax ay bx by' cx cy q)) :
    Calls Try.prog 151 #[.agg #[.int .i64 ax, .int .i64 ay], .agg #[.int .i64 bx, .int .i64 by'], .agg #[.int .i64 cx, .int .i64 cy]] w fun e w' => e = .returned (.bool (t == 0 && q)) ∧ Below w.heap.size w w' := by
  go_enter Try.func151, Try.ntmps151
  have ha := p2_alloc (.cells #[.int .i64 cx, .int .i64 cy] 43) (p2_alloc (.cells #[.int .i64 bx, .int .i64 by'] 43) (p2_new w 43 ax ay))
  have hb := p2_alloc (.cells #[.int .i64 cx, .int .i64 cy] 43) (p2_new1 w (.cells #[.int .i64 ax, .int .i64 ay] 43) 43 bx by')
  have hc := p2_new2 w (.cells #[.int .i64 ax, .int .i64 ay] 43) (.cells #[.int .i64 bx, .int .i64 by'] 43) 43 cx cy
  have hw := b_alloc (b_alloc (b_alloc (Below.refl w.heap.size w) (.cells #[.int .i64 ax, .int .i64 ay] 43)) (.cells #[.int .i64 bx, .int .i64 by'] 43)) (.cells #[.int .i64 cx, .int .i64 cy] 43)
  have H := Lib.hid (And.intro ha (And.intro hb (And.intro hc hw))); clear ha hb hc hw
  go_wp2_with fail
  refine (T.out _).mono ?_; rintro e w1 ⟨rfl, h⟩
  have ha := p2_keep h H.out.1; have hb := p2_keep h H.out.2.1; have hc := p2_keep h H.out.2.2.1; have hw := b_next H.out.2.2.2 h
  clear h
  by_cases t0 : t = 0
  · subst t0
    go_wp2_with fail
    refine (Q.out _).mono ?_; rintro e w2 ⟨rfl, h⟩
    replace hw := b_next hw h; clear h
    go_wp2_with fail
    go_ret
    exact ⟨retb (by simp), hw⟩
  · have e1 : (t == 0) = false := by simpa using t0
    clear t0
    go_wp2_with fail
    go_ret
    exact ⟨retb (by rw [e1]; rfl), hw⟩
theorem onC (ax ay bx by' cx cy : Int) (w : World) (h : B9 ax ∧ B9 ay ∧ B9 bx ∧ B9 by' ∧ B9 cx ∧ B9 cy) :
    Calls Try.prog 151 #[.agg #[.int .i64 ax, .int .i64 ay], .agg #[.int .i64 bx, .int .i64 by'], .agg #[.int .i64 cx, .int .i64 cy]] w fun e w' => e = .returned (.bool (onB ax ay bx by' cx cy)) ∧ Below w.heap.size w w' := by
  have c := on_w ax ay bx by' cx cy _ _ w (Lib.hid fun w => turn ax ay bx by' cx cy w rfl ⟨h.1, h.2.1, h.2.2.1, h.2.2.2.1, h.2.2.2.2.1, h.2.2.2.2.2⟩) (Lib.hid fun w => between ax ay bx by' cx cy w)
  have e : (sgn (crs ax ay bx by' cx cy) == 0) = decide (crs ax ay bx by' cx cy = 0) := by
    rw [Bool.eq_iff_iff, beq_iff_eq, decide_eq_true_eq]; exact sgn_eq0
  rw [e] at c
  exact c
-- CROSSES
set_option maxRecDepth 100000 in
set_option maxHeartbeats 2000000 in
theorem crosses_t (ax ay bx by' cx cy dx dy : Int) (t1 t2 t3 t4 : Int) (w : World) (T1 : Hid (TuC ax ay bx by' cx cy t1)) (T2 : Hid (TuC ax ay bx by' dx dy t2)) (T3 : Hid (TuC cx cy dx dy ax ay t3)) (T4 : Hid (TuC cx cy dx dy bx by' t4)) (b1 : -1 ≤ t1 * t2 ∧ t1 * t2 ≤ 1) (b2 : -1 ≤ t3 * t4 ∧ t3 * t4 ≤ 1) (hc : decide (t1 * t2 < 0) = true) :
    Calls Try.prog 180 #[.agg #[.int .i64 ax, .int .i64 ay], .agg #[.int .i64 bx, .int .i64 by'], .agg #[.int .i64 cx, .int .i64 cy], .agg #[.int .i64 dx, .int .i64 dy]] w fun e w' => e = .returned (.bool (decide (t3 * t4 < 0))) ∧ Below w.heap.size w w' := by
  have u1 : IntKind.i64.wrap (t1 * t2) = t1 * t2 := IntWalk.i64_in _ (by omega)
  have u2 : IntKind.i64.wrap (t3 * t4) = t3 * t4 := IntWalk.i64_in _ (by omega)
  go_enter Try.func180, Try.ntmps180
  have ha := p2_alloc (.cells #[.int .i64 dx, .int .i64 dy] 43) (p2_alloc (.cells #[.int .i64 cx, .int .i64 cy] 43) (p2_alloc (.cells #[.int .i64 bx, .int .i64 by'] 43) (p2_new w 43 ax ay)))
  have hb := p2_alloc (.cells #[.int .i64 dx, .int .i64 dy] 43) (p2_alloc (.cells #[.int .i64 cx, .int .i64 cy] 43) (p2_new1 w (.cells #[.int .i64 ax, .int .i64 ay] 43) 43 bx by'))
  have hc := p2_alloc (.cells #[.int .i64 dx, .int .i64 dy] 43) (p2_new2 w (.cells #[.int .i64 ax, .int .i64 ay] 43) (.cells #[.int .i64 bx, .int .i64 by'] 43) 43 cx cy)
  have hd := p2_new3 w (.cells #[.int .i64 ax, .int .i64 ay] 43) (.cells #[.int .i64 bx, .int .i64 by'] 43) (.cells #[.int .i64 cx, .int .i64 cy] 43) 43 dx dy
  have hw := b_alloc (b_alloc (b_alloc (b_alloc (Below.refl w.heap.size w) (.cells #[.int .i64 ax, .int .i64 ay] 43)) (.cells #[.int .i64 bx, .int .i64 by'] 43)) (.cells #[.int .i64 cx, .int .i64 cy] 43)) (.cells #[.int .i64 dx, .int .i64 dy] 43)
  have Ha := Lib.hid ha
  have Hb := Lib.hid hb
  have Hc := Lib.hid hc
  have Hd := Lib.hid hd
  have HW := Lib.hid hw
  clear hw ha hb hc hd
  go_wp2_with fail
  refine d_region (by kernel_rfl) (by kernel_rfl) ?_
  repeat
    first
      | (refine d_plain (by with_reducible rfl) ?_; apply Exists.intro; refine ⟨fun wq hc hq => ?_, ?_⟩)
      | (refine d_on (by with_reducible rfl) (by rfl) (by with_reducible rfl) ?_; apply Exists.intro; refine ⟨fun wq hc hq => ?_, ?_⟩)
      | (refine d_off (by with_reducible rfl) (by rfl) (by rfl) ?_)
      | (refine d_void (by with_reducible rfl) (by rfl) ?_)
    try any_goals
      (have qa := p2_keep hq Ha.out; have qb := p2_keep hq Hb.out; have qc := p2_keep hq Hc.out; have qd := p2_keep hq Hd.out; clear hc
       go_simp
       first
         | rfl
         | (go_at_call 149; with_reducible exact call_below hq (T1.out _))
         | (go_at_call 149; with_reducible exact call_below hq (T2.out _))
         | (go_at_call 149; with_reducible exact call_below hq (T3.out _))
         | (go_at_call 149; with_reducible exact call_below hq (T4.out _)))
    simp only [Act.put, List.setIfInBounds_toArray, List.set_cons_zero, List.set_cons_succ]
  refine d_nil ?_
  intro w1 hb1
  go_wp2_with fail
  go_ret
  exact ⟨retb rfl, b_next HW.out hb1⟩
set_option maxRecDepth 100000 in
set_option maxHeartbeats 2000000 in
theorem crosses_f (ax ay bx by' cx cy dx dy : Int) (t1 t2 t3 t4 : Int) (w : World) (T1 : Hid (TuC ax ay bx by' cx cy t1)) (T2 : Hid (TuC ax ay bx by' dx dy t2)) (_T3 : Hid (TuC cx cy dx dy ax ay t3)) (_T4 : Hid (TuC cx cy dx dy bx by' t4)) (b1 : -1 ≤ t1 * t2 ∧ t1 * t2 ≤ 1) (b2 : -1 ≤ t3 * t4 ∧ t3 * t4 ≤ 1) (hc : decide (t1 * t2 < 0) = false) :
    Calls Try.prog 180 #[.agg #[.int .i64 ax, .int .i64 ay], .agg #[.int .i64 bx, .int .i64 by'], .agg #[.int .i64 cx, .int .i64 cy], .agg #[.int .i64 dx, .int .i64 dy]] w fun e w' => e = .returned (.bool (false)) ∧ Below w.heap.size w w' := by
  have u1 : IntKind.i64.wrap (t1 * t2) = t1 * t2 := IntWalk.i64_in _ (by omega)
  have u2 : IntKind.i64.wrap (t3 * t4) = t3 * t4 := IntWalk.i64_in _ (by omega)
  go_enter Try.func180, Try.ntmps180
  have ha := p2_alloc (.cells #[.int .i64 dx, .int .i64 dy] 43) (p2_alloc (.cells #[.int .i64 cx, .int .i64 cy] 43) (p2_alloc (.cells #[.int .i64 bx, .int .i64 by'] 43) (p2_new w 43 ax ay)))
  have hb := p2_alloc (.cells #[.int .i64 dx, .int .i64 dy] 43) (p2_alloc (.cells #[.int .i64 cx, .int .i64 cy] 43) (p2_new1 w (.cells #[.int .i64 ax, .int .i64 ay] 43) 43 bx by'))
  have hc := p2_alloc (.cells #[.int .i64 dx, .int .i64 dy] 43) (p2_new2 w (.cells #[.int .i64 ax, .int .i64 ay] 43) (.cells #[.int .i64 bx, .int .i64 by'] 43) 43 cx cy)
  have hd := p2_new3 w (.cells #[.int .i64 ax, .int .i64 ay] 43) (.cells #[.int .i64 bx, .int .i64 by'] 43) (.cells #[.int .i64 cx, .int .i64 cy] 43) 43 dx dy
  have hw := b_alloc (b_alloc (b_alloc (b_alloc (Below.refl w.heap.size w) (.cells #[.int .i64 ax, .int .i64 ay] 43)) (.cells #[.int .i64 bx, .int .i64 by'] 43)) (.cells #[.int .i64 cx, .int .i64 cy] 43)) (.cells #[.int .i64 dx, .int .i64 dy] 43)
  have Ha := Lib.hid ha
  have Hb := Lib.hid hb
  have Hc := Lib.hid hc
  have Hd := Lib.hid hd
  have HW := Lib.hid hw
  clear hw ha hb hc hd
  go_wp2_with fail
  refine d_region (by kernel_rfl) (by kernel_rfl) ?_
  repeat
    first
      | (refine d_plain (by with_reducible rfl) ?_; apply Exists.intro; refine ⟨fun wq hc hq => ?_, ?_⟩)
      | (refine d_on (by with_reducible rfl) (by rfl) (by with_reducible rfl) ?_; apply Exists.intro; refine ⟨fun wq hc hq => ?_, ?_⟩)
      | (refine d_off (by with_reducible rfl) (by rfl) (by rfl) ?_)
      | (refine d_void (by with_reducible rfl) (by rfl) ?_)
    try any_goals
      (have qa := p2_keep hq Ha.out; have qb := p2_keep hq Hb.out; have qc := p2_keep hq Hc.out; have qd := p2_keep hq Hd.out; clear hc
       go_simp
       first
         | rfl
         | (go_at_call 149; with_reducible exact call_below hq (T1.out _))
         | (go_at_call 149; with_reducible exact call_below hq (T2.out _))
         | (go_at_call 149; with_reducible exact call_below hq (T3.out _))
         | (go_at_call 149; with_reducible exact call_below hq (T4.out _)))
    simp only [Act.put, List.setIfInBounds_toArray, List.set_cons_zero, List.set_cons_succ]
  refine d_nil ?_
  intro w1 hb1
  go_wp2_with fail
  go_ret
  exact ⟨retb rfl, b_next HW.out hb1⟩
/-- The open segments from a to b and from c to d cross. -/
def crossB (ax ay bx by' cx cy dx dy : Int) : Bool := decide (sgn (crs ax ay bx by' cx cy) * sgn (crs ax ay bx by' dx dy) < 0) && decide (sgn (crs cx cy dx dy ax ay) * sgn (crs cx cy dx dy bx by') < 0)
theorem sgn_mul (m n : Int) : -1 ≤ sgn m * sgn n ∧ sgn m * sgn n ≤ 1 := by
  have a := sgn_bd m; have b := sgn_bd n
  rcases (show sgn m = -1 ∨ sgn m = 0 ∨ sgn m = 1 from by omega) with e | e | e <;> rw [e] <;> omega
theorem crossC (ax ay bx by' cx cy dx dy : Int) (w : World) (h : B9 ax ∧ B9 ay ∧ B9 bx ∧ B9 by' ∧ B9 cx ∧ B9 cy ∧ B9 dx ∧ B9 dy) :
    Calls Try.prog 180 #[.agg #[.int .i64 ax, .int .i64 ay], .agg #[.int .i64 bx, .int .i64 by'], .agg #[.int .i64 cx, .int .i64 cy], .agg #[.int .i64 dx, .int .i64 dy]] w fun e w' => e = .returned (.bool (crossB ax ay bx by' cx cy dx dy)) ∧ Below w.heap.size w w' := by
  obtain ⟨h1, h2, h3, h4, h5, h6, h7, h8⟩ := h
  have T1 := Lib.hid fun w => turn ax ay bx by' cx cy w rfl ⟨h1, h2, h3, h4, h5, h6⟩
  have T2 := Lib.hid fun w => turn ax ay bx by' dx dy w rfl ⟨h1, h2, h3, h4, h7, h8⟩
  have T3 := Lib.hid fun w => turn cx cy dx dy ax ay w rfl ⟨h5, h6, h7, h8, h1, h2⟩
  have T4 := Lib.hid fun w => turn cx cy dx dy bx by' w rfl ⟨h5, h6, h7, h8, h3, h4⟩
  unfold crossB
  by_cases hc : sgn (crs ax ay bx by' cx cy) * sgn (crs ax ay bx by' dx dy) < 0
  · rw [decide_eq_true hc, Bool.true_and]
    exact crosses_t ax ay bx by' cx cy dx dy _ _ _ _ w T1 T2 T3 T4 (sgn_mul _ _) (sgn_mul _ _) (decide_eq_true hc)
  · rw [decide_eq_false hc, Bool.false_and]
    exact crosses_f ax ay bx by' cx cy dx dy _ _ _ _ w T1 T2 T3 T4 (sgn_mul _ _) (sgn_mul _ _) (decide_eq_false hc)
abbrev CrC (ax ay bx by' cx cy dx dy : Int) (b : Bool) : Prop := ∀ w, Calls Try.prog 180 #[.agg #[.int .i64 ax, .int .i64 ay], .agg #[.int .i64 bx, .int .i64 by'], .agg #[.int .i64 cx, .int .i64 cy], .agg #[.int .i64 dx, .int .i64 dy]] w fun e w' => e = .returned (.bool b) ∧ Below w.heap.size w w'
abbrev OnC (ax ay bx by' cx cy : Int) (b : Bool) : Prop := ∀ w, Calls Try.prog 151 #[.agg #[.int .i64 ax, .int .i64 ay], .agg #[.int .i64 bx, .int .i64 by'], .agg #[.int .i64 cx, .int .i64 cy]] w fun e w' => e = .returned (.bool b) ∧ Below w.heap.size w w'
set_option maxRecDepth 100000 in
set_option maxHeartbeats 2000000 in
theorem common_w (ax ay bx by' cx cy dx dy : Int) (x1 x2 x3 x4 x5 : Bool) (w : World) (C1 : Hid (CrC ax ay bx by' cx cy dx dy x1)) (O1 : Hid (OnC ax ay bx by' cx cy x2)) (O2 : Hid (OnC ax ay bx by' dx dy x3)) (O3 : Hid (OnC cx cy dx dy ax ay x4)) (O4 : Hid (OnC cx cy dx dy bx by' x5)) :
    Calls Try.prog 147 #[.agg #[.int .i64 ax, .int .i64 ay], .agg #[.int .i64 bx, .int .i64 by'], .agg #[.int .i64 cx, .int .i64 cy], .agg #[.int .i64 dx, .int .i64 dy]] w fun e w' => e = .returned (.bool (x1 || x2 || x3 || x4 || x5)) ∧ Below w.heap.size w w' := by
  go_enter Try.func147, Try.ntmps147
  have ha := p2_alloc (.cells #[.int .i64 dx, .int .i64 dy] 43) (p2_alloc (.cells #[.int .i64 cx, .int .i64 cy] 43) (p2_alloc (.cells #[.int .i64 bx, .int .i64 by'] 43) (p2_new w 43 ax ay)))
  have hb := p2_alloc (.cells #[.int .i64 dx, .int .i64 dy] 43) (p2_alloc (.cells #[.int .i64 cx, .int .i64 cy] 43) (p2_new1 w (.cells #[.int .i64 ax, .int .i64 ay] 43) 43 bx by'))
  have hc := p2_alloc (.cells #[.int .i64 dx, .int .i64 dy] 43) (p2_new2 w (.cells #[.int .i64 ax, .int .i64 ay] 43) (.cells #[.int .i64 bx, .int .i64 by'] 43) 43 cx cy)
  have hd := p2_new3 w (.cells #[.int .i64 ax, .int .i64 ay] 43) (.cells #[.int .i64 bx, .int .i64 by'] 43) (.cells #[.int .i64 cx, .int .i64 cy] 43) 43 dx dy
  have hw := b_alloc (b_alloc (b_alloc (b_alloc (Below.refl w.heap.size w) (.cells #[.int .i64 ax, .int .i64 ay] 43)) (.cells #[.int .i64 bx, .int .i64 by'] 43)) (.cells #[.int .i64 cx, .int .i64 cy] 43)) (.cells #[.int .i64 dx, .int .i64 dy] 43)
  have Ha := Lib.hid ha
  have Hb := Lib.hid hb
  have Hc := Lib.hid hc
  have Hd := Lib.hid hd
  have HW := Lib.hid hw
  clear hw ha hb hc hd
  go_wp2_with fail
  refine (C1.out _).mono ?_; rintro e w1 ⟨rfl, h⟩
  have ha := p2_keep h Ha.out
  have hb := p2_keep h Hb.out
  have hc := p2_keep h Hc.out
  have hd := p2_keep h Hd.out
  have hw := b_next HW.out h; clear h
  cases x1
  · go_wp2_with fail
    refine (O1.out _).mono ?_; rintro e w2 ⟨rfl, h⟩
    replace ha := p2_keep h ha
    replace hb := p2_keep h hb
    replace hc := p2_keep h hc
    replace hd := p2_keep h hd
    replace hw := b_next hw h; clear h
    cases x2
    · go_wp2_with fail
      refine (O2.out _).mono ?_; rintro e w3 ⟨rfl, h⟩
      replace ha := p2_keep h ha
      replace hb := p2_keep h hb
      replace hc := p2_keep h hc
      replace hd := p2_keep h hd
      replace hw := b_next hw h; clear h
      cases x3
      · go_wp2_with fail
        refine (O3.out _).mono ?_; rintro e w4 ⟨rfl, h⟩
        replace ha := p2_keep h ha
        replace hb := p2_keep h hb
        replace hc := p2_keep h hc
        replace hd := p2_keep h hd
        replace hw := b_next hw h; clear h
        cases x4
        · go_wp2_with fail
          refine (O4.out _).mono ?_; rintro e w5 ⟨rfl, h⟩
          replace ha := p2_keep h ha
          replace hb := p2_keep h hb
          replace hc := p2_keep h hc
          replace hd := p2_keep h hd
          replace hw := b_next hw h; clear h
          cases x5
          · go_wp2_with fail
            go_ret
            exact ⟨retb (by simp), hw⟩
          · go_wp2_with fail
            go_ret
            exact ⟨retb (by simp), hw⟩
        · go_wp2_with fail
          go_ret
          exact ⟨retb (by simp), hw⟩
      · go_wp2_with fail
        go_ret
        exact ⟨retb (by simp), hw⟩
    · go_wp2_with fail
      go_ret
      exact ⟨retb (by simp), hw⟩
  · go_wp2_with fail
    go_ret
    exact ⟨retb (by simp), hw⟩
/-- The segments have a common point. -/
def commonB (ax ay bx by' cx cy dx dy : Int) : Bool := crossB ax ay bx by' cx cy dx dy || onB ax ay bx by' cx cy || onB ax ay bx by' dx dy || onB cx cy dx dy ax ay || onB cx cy dx dy bx by'
theorem commonC (ax ay bx by' cx cy dx dy : Int) (w : World) (h : B9 ax ∧ B9 ay ∧ B9 bx ∧ B9 by' ∧ B9 cx ∧ B9 cy ∧ B9 dx ∧ B9 dy) :
    Calls Try.prog 147 #[.agg #[.int .i64 ax, .int .i64 ay], .agg #[.int .i64 bx, .int .i64 by'], .agg #[.int .i64 cx, .int .i64 cy], .agg #[.int .i64 dx, .int .i64 dy]] w fun e w' => e = .returned (.bool (commonB ax ay bx by' cx cy dx dy)) ∧ Below w.heap.size w w' := by
  have C1 := Lib.hid fun w => crossC ax ay bx by' cx cy dx dy w h
  obtain ⟨h1, h2, h3, h4, h5, h6, h7, h8⟩ := h
  exact common_w ax ay bx by' cx cy dx dy _ _ _ _ _ w C1 (Lib.hid fun w => onC ax ay bx by' cx cy w ⟨h1, h2, h3, h4, h5, h6⟩) (Lib.hid fun w => onC ax ay bx by' dx dy w ⟨h1, h2, h3, h4, h7, h8⟩)
    (Lib.hid fun w => onC cx cy dx dy ax ay w ⟨h5, h6, h7, h8, h1, h2⟩) (Lib.hid fun w => onC cx cy dx dy bx by' w ⟨h5, h6, h7, h8, h3, h4⟩)
end Poly
end Go.Proofs.Yteaccanhahmclaa
