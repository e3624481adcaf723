/- ProbeSafe: two points of separated nodes are separated. For every input. -/
import Derived.Test.YtampbjbalenckaaProbeM
namespace Go.Proofs.Ytampbjbalenckaa
open Go.RowKit Go.ChangeShapes Go.WideShapes
namespace ProbeSafe
open Kit Plane Tube Probe
set_option maxHeartbeats 1000000 in
theorem absC (x : Int) (w : World) (hx : -100000 ≤ x ∧ x ≤ 100000) : Calls Try.prog 36 #[.int .i64 x] w fun e w' => e = .returned (.int .i64 (max x (-x))) ∧ w = w' := by
  go_enter Try.func36, Try.ntmps36
  go_wp2_with fail
  all_goals
    go_ret
    exact ⟨ret1 (by omega), rfl⟩
abbrev World5 (w : World) (t x y h r d t' x' y' h' r' d' lat ver px py qx qy : Int) : World := ((((w.alloc (.cells #[.int .i64 t, .int .i64 x, .int .i64 y, .int .i64 h, .int .i64 r, .int .i64 d] 47)).alloc (.cells #[.int .i64 t', .int .i64 x', .int .i64 y', .int .i64 h', .int .i64 r', .int .i64 d'] 47)).alloc (.cells #[.int .i64 lat, .int .i64 ver] 70)).alloc (.cells #[.int .i64 px, .int .i64 py] 26)).alloc (.cells #[.int .i64 qx, .int .i64 qy] 26)
structure B5 (w w1 : World) (t x y h r d t' x' y' h' r' d' lat ver px py qx qy : Int) : Prop where
  a : D6 w1 w.heap.size t x y h r d
  b : D6 w1 (w.heap.size + 1) t' x' y' h' r' d'
  s : P2 w1 (w.heap.size + 1 + 1) lat ver
  p : P2 w1 (w.heap.size + 1 + 1 + 1) px py
  q : P2 w1 (w.heap.size + 1 + 1 + 1 + 1) qx qy
  w : Below w.heap.size w w1
theorem b5_keep {w w1 w2 : World} {t x y h r d t' x' y' h' r' d' lat ver px py qx qy : Int} (hb : Below w1.heap.size w1 w2) (H : B5 w w1 t x y h r d t' x' y' h' r' d' lat ver px py qx qy) : B5 w w2 t x y h r d t' x' y' h' r' d' lat ver px py qx qy :=
  ⟨d6_keep hb H.a, d6_keep hb H.b, p2_keep hb H.s, p2_keep hb H.p, p2_keep hb H.q, b_next H.w hb⟩
theorem b5_new (w : World) (t x y h r d t' x' y' h' r' d' lat ver px py qx qy : Int) : B5 w (World5 w t x y h r d t' x' y' h' r' d' lat ver px py qx qy) t x y h r d t' x' y' h' r' d' lat ver px py qx qy := by
  have k0 := Below.refl w.heap.size w
  refine ⟨?_, ?_, ?_, ?_, ?_, b_alloc (b_alloc (b_alloc (b_alloc (b_alloc k0 _) _) _) _) _⟩
  · exact d6_keep (b_alloc (Below.refl _ _) _) (d6_keep (b_alloc (Below.refl _ _) _) (d6_keep (b_alloc (Below.refl _ _) _) (d6_keep (b_alloc (Below.refl _ _) _) (d6_new w 47 t x y h r d))))
  · have z := d6_new (w.alloc (.cells #[.int .i64 t, .int .i64 x, .int .i64 y, .int .i64 h, .int .i64 r, .int .i64 d] 47)) 47 t' x' y' h' r' d'
    rw [World.size_alloc] at z
    exact d6_keep (b_alloc (Below.refl _ _) _) (d6_keep (b_alloc (Below.refl _ _) _) (d6_keep (b_alloc (Below.refl _ _) _) z))
  · exact p2_alloc _ (p2_alloc _ (p2_new2 w _ _ 70 lat ver))
  · have z := p2_new2 (w.alloc (.cells #[.int .i64 t, .int .i64 x, .int .i64 y, .int .i64 h, .int .i64 r, .int .i64 d] 47)) (.cells #[.int .i64 t', .int .i64 x', .int .i64 y', .int .i64 h', .int .i64 r', .int .i64 d'] 47) (.cells #[.int .i64 lat, .int .i64 ver] 70) 26 px py
    rw [World.size_alloc] at z
    exact p2_alloc _ z
  · have z := p2_new2 ((w.alloc (.cells #[.int .i64 t, .int .i64 x, .int .i64 y, .int .i64 h, .int .i64 r, .int .i64 d] 47)).alloc (.cells #[.int .i64 t', .int .i64 x', .int .i64 y', .int .i64 h', .int .i64 r', .int .i64 d'] 47)) (.cells #[.int .i64 lat, .int .i64 ver] 70) (.cells #[.int .i64 px, .int .i64 py] 26) 26 qx qy
    rw [World.size_alloc, World.size_alloc] at z
    exact z
/-- The two answers of Has, and what follows. -/
def SafeP (f g : Int) (u v : Bool) (s : Int) (e : Bool) : Prop := (f != 0) = true ∨ ((f != 0) = false ∧ (g != 0) = true) ∨ ((f != 0) = false ∧ (g != 0) = false ∧ u = false) ∨ ((f != 0) = false ∧ (g != 0) = false ∧ u = true ∧ v = false) ∨ ((f != 0) = false ∧ (g != 0) = false ∧ u = true ∧ v = true ∧ 0 ≤ s ∧ e = true)
set_option maxRecDepth 100000 in
set_option maxHeartbeats 8000000 in
theorem body (t x y h r d t' x' y' h' r' d' lat ver px py qx qy g0 h0 E : Int) (is u v : Bool) (f g : Int) (w : World)
    (SD : Hid (∀ w, Calls Try.prog 34 #[.agg #[.int .i64 t, .int .i64 x, .int .i64 y, .int .i64 h, .int .i64 r, .int .i64 d], .agg #[.int .i64 t', .int .i64 x', .int .i64 y', .int .i64 h', .int .i64 r', .int .i64 d'], .agg #[.int .i64 lat, .int .i64 ver]] w fun e w' => e = .returned (.tuple #[.bool is, .int .i64 E]) ∧ Below w.heap.size w w'))
    (H1 : Hid (∀ w b, D6 w b t x y h r d → Calls Try.prog 30 #[.slice (some ⟨b, 0, none⟩) 1 1, .int .i64 t, .agg #[.int .i64 px, .int .i64 py], .int .i64 g0] w fun e w' => e = .returned (.tuple #[.bool u, .int .i64 f]) ∧ Below w.heap.size w w'))
    (H2 : Hid (∀ w b, D6 w b t' x' y' h' r' d' → Calls Try.prog 30 #[.slice (some ⟨b, 0, none⟩) 1 1, .int .i64 t', .agg #[.int .i64 qx, .int .i64 qy], .int .i64 h0] w fun e w' => e = .returned (.tuple #[.bool v, .int .i64 g]) ∧ Below w.heap.size w w'))
    (hx : is = false ∨ (is = true ∧ E = 0 ∧ ((f != 0) = true ∨ ((f != 0) = false ∧ (g != 0) = true) ∨ ((f != 0) = false ∧ (g != 0) = false ∧ u = false) ∨ ((f != 0) = false ∧ (g != 0) = false ∧ u = true ∧ v = false) ∨
      ((f != 0) = false ∧ (g != 0) = false ∧ u = true ∧ v = true ∧ (-1000000 ≤ px ∧ px ≤ 1000000 ∧ -1000000 ≤ py ∧ py ≤ 1000000 ∧ -1000000 ≤ qx ∧ qx ≤ 1000000 ∧ -1000000 ≤ qy ∧ qy ≤ 1000000 ∧ 0 ≤ g0 ∧ g0 ≤ 60000 ∧ 0 ≤ h0 ∧ h0 ≤ 60000 ∧ 0 ≤ lat ∧ lat ≤ 1000000 ∧ 0 ≤ lat * lat ∧ lat * lat ≤ 1000000000000) ∧ (lat * lat ≤ sqr px py qx qy ∨ ver ≤ max (g0 - h0) (-(g0 - h0))))))) :
    Calls Try.prog 11 #[.agg #[.int .i64 t, .int .i64 x, .int .i64 y, .int .i64 h, .int .i64 r, .int .i64 d], .agg #[.int .i64 t', .int .i64 x', .int .i64 y', .int .i64 h', .int .i64 r', .int .i64 d'], .agg #[.int .i64 lat, .int .i64 ver], .agg #[.int .i64 px, .int .i64 py], .agg #[.int .i64 qx, .int .i64 qy], .int .i64 g0, .int .i64 h0] w fun e w' => e = .returned (.bool true) ∧ Below w.heap.size w w' := by
  have B0 := Lib.hid (b5_new w t x y h r d t' x' y' h' r' d' lat ver px py qx qy)
  go_enter Try.func11, Try.ntmps11
  go_wp2_with fail
  (with_reducible refine (probeWorks _).mono ?_); rintro e w1 ⟨rfl, hb⟩
  have B1 := Lib.hid (b5_keep hb B0.out); clear hb
  obtain ⟨⟨⟨a0, a1, a2⟩, a3, a4, a5⟩, ⟨⟨c0, c1, c2⟩, c3, c4, c5⟩, ⟨s0, s1⟩, -, -, -⟩ := B1.out
  go_wp2_with fail
  (with_reducible refine (SD.out _).mono ?_); rintro e w2 ⟨rfl, hb⟩
  have B2 := Lib.hid (b5_keep hb B1.out); clear hb a0 a1 a2 a3 a4 a5 c0 c1 c2 c3 c4 c5 s0 s1
  rcases hx with rfl | ⟨rfl, rfl, hx⟩
  · go_wp2_with fail
    all_goals first | (go_ret; exact ⟨retb rfl, B2.out.w⟩) | (exfalso; simp_all; done)
  · obtain ⟨⟨⟨a0, a1, a2⟩, a3, a4, a5⟩, -, -, ⟨p0, p1⟩, -, -⟩ := B2.out
    have D3 := Lib.hid (d6_new w2 47 t x y h r d)
    have B3 := Lib.hid (b5_keep (b_alloc (Below.refl w2.heap.size w2) (.cells #[.int .i64 t, .int .i64 x, .int .i64 y, .int .i64 h, .int .i64 r, .int .i64 d] 47)) B2.out)
    have n1 := new_ne a0; have n2 := new_ne p0
    go_wp2_with fail
    (with_reducible refine (H1.out _ _ D3.out).mono ?_); rintro e w3 ⟨rfl, hb⟩
    have B4 := Lib.hid (b5_keep hb B3.out); clear hb a0 a1 a2 a3 a4 a5 p0 p1 n1 n2
    obtain ⟨-, ⟨⟨c0, c1, c2⟩, c3, c4, c5⟩, -, -, ⟨q0, q1⟩, -⟩ := B4.out
    have D5 := Lib.hid (d6_new w3 47 t' x' y' h' r' d')
    have B5' := Lib.hid (b5_keep (b_alloc (Below.refl w3.heap.size w3) (.cells #[.int .i64 t', .int .i64 x', .int .i64 y', .int .i64 h', .int .i64 r', .int .i64 d'] 47)) B4.out)
    have n1 := new_ne c0; have n2 := new_ne q0
    go_wp2_with fail
    (with_reducible refine (H2.out _ _ D5.out).mono ?_); rintro e w4 ⟨rfl, hb⟩
    have B6 := Lib.hid (b5_keep hb B5'.out); clear hb c0 c1 c2 c3 c4 c5 q0 q1 n1 n2
    rcases hx with e1 | ⟨e1, e2⟩ | ⟨e1, e2, rfl⟩ | ⟨e1, e2, rfl, rfl⟩ | ⟨e1, e2, rfl, rfl, bd, hs⟩
    · go_wp2_with fail
      go_ret
      exact ⟨retb rfl, B6.out.w⟩
    · go_wp2_with fail
      go_ret
      exact ⟨retb rfl, B6.out.w⟩
    · go_wp2_with fail
      go_ret
      exact ⟨retb rfl, B6.out.w⟩
    · go_wp2_with fail
      go_ret
      exact ⟨retb rfl, B6.out.w⟩
    · have SQ := Lib.hid (fun w => square px py qx qy w rfl (by omega))
      have AB := Lib.hid (fun w => absC (g0 - h0) w (by omega))
      have HS := Lib.hid hs; clear hs
      generalize hsq : sqr px py qx qy = sq at *
      clear hsq
      generalize max (g0 - h0) (-(g0 - h0)) = ab at *
      have u1 : IntKind.i64.wrap (lat * lat) = lat * lat := IntWalk.i64_in _ (by omega)
      have u2 : IntKind.i64.wrap (g0 - h0) = g0 - h0 := IntWalk.i64_in _ (by omega)
      by_cases d1 : lat * lat ≤ sq
      · have f1 := decide_eq_true d1
        go_wp2_with fail
        refine d_region (by kernel_rfl) (by kernel_rfl) ?_
        repeat
          first
            | (refine d_plain (by with_reducible rfl) ?_; apply Exists.intro; refine ⟨fun wq hc hq => ?_, ?_⟩)
            | (refine d_on (by with_reducible rfl) (by rfl) (by with_reducible rfl) ?_; apply Exists.intro; refine ⟨fun wq hc hq => ?_, ?_⟩)
            | (refine d_off (by with_reducible rfl) (by rfl) (by rfl) ?_)
            | (refine d_void (by with_reducible rfl) (by rfl) ?_)
          try any_goals
            (obtain ⟨-, -, ⟨s0, s1⟩, ⟨p0, p1⟩, ⟨q0, q1⟩, -⟩ := b5_keep (cls hq) B6.out; clear hc
             go_simp
             first
               | rfl
               | (go_at_call 35; with_reducible exact call_below hq (SQ.out _))
               | (go_at_call 36; with_reducible exact call_same hq (AB.out _)))
          simp only [Act.put, List.setIfInBounds_toArray, List.set_cons_zero, List.set_cons_succ]
        refine d_nil ?_
        intro w1 hb1
        have hw := b_next B6.out.w hb1
        go_wp2_with fail
        go_ret
        exact ⟨retb rfl, hw⟩
      · have f1 := decide_eq_false d1
        have hv := HS.out.resolve_left d1
        have f2 := decide_eq_true hv
        go_wp2_with fail
        refine d_region (by kernel_rfl) (by kernel_rfl) ?_
        repeat
          first
            | (refine d_plain (by with_reducible rfl) ?_; apply Exists.intro; refine ⟨fun wq hc hq => ?_, ?_⟩)
            | (refine d_on (by with_reducible rfl) (by rfl) (by with_reducible rfl) ?_; apply Exists.intro; refine ⟨fun wq hc hq => ?_, ?_⟩)
            | (refine d_off (by with_reducible rfl) (by rfl) (by rfl) ?_)
            | (refine d_void (by with_reducible rfl) (by rfl) ?_)
          try any_goals
            (obtain ⟨-, -, ⟨s0, s1⟩, ⟨p0, p1⟩, ⟨q0, q1⟩, -⟩ := b5_keep (cls hq) B6.out; clear hc
             go_simp
             first
               | rfl
               | (go_at_call 35; with_reducible exact call_below hq (SQ.out _))
               | (go_at_call 36; with_reducible exact call_same hq (AB.out _)))
          simp only [Act.put, List.setIfInBounds_toArray, List.set_cons_zero, List.set_cons_succ]
        refine d_nil ?_
        intro w1 hb1
        have hw := b_next B6.out.w hb1
        go_wp2_with fail
        go_ret
        exact ⟨retb rfl, hw⟩
/-- The triangle's law on squares, strictly. -/
theorem tri_lt {px py qx qy u v : Int} (hu : 0 ≤ u) (hv : 0 ≤ v) (h1 : px * px + py * py ≤ u * u) (h2 : qx * qx + qy * qy < v * v) : (px + qx) * (px + qx) + (py + qy) * (py + qy) < (u + v) * (u + v) := by
  have hid : (px * qx + py * qy) * (px * qx + py * qy) + (px * qy - py * qx) * (px * qy - py * qx) = (px * px + py * py) * (qx * qx + qy * qy) := by grind
  have hs := sq_nonneg (px * qy - py * qx)
  have hq0 : 0 ≤ qx * qx + qy * qy := by have := sq_nonneg qx; have := sq_nonneg qy; omega
  have hm : (px * px + py * py) * (qx * qx + qy * qy) ≤ (u * u) * (v * v) := Int.mul_le_mul h1 (Int.le_of_lt h2) hq0 (sq_nonneg u)
  have he : (u * u) * (v * v) = (u * v) * (u * v) := by grind
  have hc : px * qx + py * qy ≤ u * v := by
    refine le_of_sq (Int.mul_nonneg hu hv) ?_
    generalize (px * qx + py * qy) * (px * qx + py * qy) = a at *
    generalize (px * qy - py * qx) * (px * qy - py * qx) = b at *
    omega
  have e1 : (px + qx) * (px + qx) + (py + qy) * (py + qy) = (px * px + py * py) + (qx * qx + qy * qy) + 2 * (px * qx + py * qy) := by grind
  have e2 : (u + v) * (u + v) = u * u + v * v + 2 * (u * v) := by grind
  rw [e1, e2]
  generalize px * px + py * py = a at *; generalize qx * qx + qy * qy = b at *; generalize px * qx + py * qy = c at *
  omega
/-- Points of separated nodes are separated. -/
theorem safe {x y h r d x' y' h' r' d' lat ver px py qx qy g0 h0 : Int} (hl : 0 ≤ lat) (hr : 0 ≤ r) (hr' : 0 ≤ r') (hs : sepB x y h r d x' y' h' r' d' lat ver = true) (h1 : (inB (sqr x y px py) r && decide (max (h - g0) (g0 - h) ≤ d)) = true) (h2 : (inB (sqr x' y' qx qy) r' && decide (max (h' - h0) (h0 - h') ≤ d')) = true) :
    lat * lat ≤ sqr px py qx qy ∨ ver ≤ max (g0 - h0) (-(g0 - h0)) := by
  unfold inB at h1 h2
  unfold sepB at hs
  simp only [Bool.and_eq_true, Bool.or_eq_true, decide_eq_true_eq] at h1 h2 hs
  rcases hs with hs | hs
  · left
    rcases Int.lt_or_le (sqr px py qx qy) (lat * lat) with hlt | hge
    · exfalso
      have n0 := sqr_nonneg x y x' y'
      obtain ⟨k0, k1, -⟩ := root_spec n0
      have e0 : 0 ≤ root (sqr x y x' y') := k0
      have t1 := tri_lt (px := x - px) (py := y - py) (qx := px - qx) (qy := py - qy) (u := r) (v := lat) hr hl (by have := h1.1.2.2; unfold sqr at this; exact this) (by unfold sqr at hlt; exact hlt)
      rw [show x - px + (px - qx) = x - qx from by omega, show y - py + (py - qy) = y - qy from by omega] at t1
      have t2 := tri_lt (px := qx - x') (py := qy - y') (qx := x - qx) (qy := y - qy) (u := r') (v := r + lat) hr' (by omega) (by
        have := h2.1.2.2; unfold sqr at this
        rw [show qx - x' = -(x' - qx) from by omega, show qy - y' = -(y' - qy) from by omega, Int.neg_mul_neg, Int.neg_mul_neg]; exact this) t1
      rw [show qx - x' + (x - qx) = x - x' from by omega, show qy - y' + (y - qy) = y - y' from by omega] at t2
      have m := sq_mono (x := r' + (r + lat)) (y := root (sqr x y x' y')) (by omega) (by omega)
      have k2 : root (sqr x y x' y') * root (sqr x y x' y') ≤ (x - x') * (x - x') + (y - y') * (y - y') := k1
      omega
    · exact hge
  · right
    omega
theorem bne {x : Int} : ((x != 0) = true ↔ x ≠ 0) ∧ ((x != 0) = false ↔ x = 0) := ⟨by simp, by simp⟩
/-- Has of a tube of one node, at its time. -/
theorem has_one (t x y h r d px py g0 : Int) : ∃ (u : Bool) (f : Int), (∀ w b, D6 w b t x y h r d → Calls Try.prog 30 #[.slice (some ⟨b, 0, none⟩) 1 1, .int .i64 t, .agg #[.int .i64 px, .int .i64 py], .int .i64 g0] w fun e w' => e = .returned (.tuple #[.bool u, .int .i64 f]) ∧ Below w.heap.size w w') ∧
    (f ≠ 0 ∨ (f = 0 ∧ nodeE t x y h r d = 0 ∧ chk px py = 0 ∧ 0 ≤ g0 ∧ g0 ≤ 60000 ∧ u = (inB (sqr x y px py) r && decide (max (h - g0) (g0 - h) ≤ d)))) := by
  by_cases he : hasE (fun _ => t) (fun _ => x) (fun _ => y) (fun _ => h) (fun _ => r) (fun _ => d) 1 t px py g0 = 0
  · obtain ⟨hA, hc, h1, h2⟩ := hasE_zero he
    obtain ⟨hp, -, -, -⟩ := tatE_zero hA
    have hs : tseg (fun _ => t) 1 t 0 := ⟨by omega, Int.le_refl _, fun h => by omega⟩
    refine ⟨_, 0, fun w b hd => has_ok (one_tv hd) he hs, Or.inr ⟨rfl, (tck_zero 1).2 hp, hc, h1, h2, ?_⟩⟩
    unfold hasB
    have e1 := tx_at (T := fun _ => t) (X := fun _ => x) (i := 0)
    have e2 := tx_at (T := fun _ => t) (X := fun _ => y) (i := 0)
    have e3 := th_at (T := fun _ => t) (H := fun _ => h) (i := 0)
    have e4 := tu_at (T := fun _ => t) (R := fun _ => r) (i := 0)
    have e5 := tu_at (T := fun _ => t) (R := fun _ => d) (i := 0)
    rw [e1, e2, e3, e4, e5]
  · exact ⟨false, _, fun w b hd => has_bad (one_tv hd) he, Or.inl he⟩
theorem walk (a_t : Int) (a_x : Int) (a_y : Int) (a_h : Int) (a_r : Int) (a_b : Int) (b_t : Int) (b_x : Int) (b_y : Int) (b_h : Int) (b_r : Int) (b_b : Int) (s_lat : Int) (s_vert : Int) (p_x : Int) (p_y : Int) (q_x : Int) (q_y : Int) (g : Int) (h : Int) (W : World) (_h_a_t : -9223372036854775808 ≤ a_t ∧ a_t ≤ 9223372036854775807) (_h_a_x : -9223372036854775808 ≤ a_x ∧ a_x ≤ 9223372036854775807) (_h_a_y : -9223372036854775808 ≤ a_y ∧ a_y ≤ 9223372036854775807) (_h_a_h : -9223372036854775808 ≤ a_h ∧ a_h ≤ 9223372036854775807) (_h_a_r : -9223372036854775808 ≤ a_r ∧ a_r ≤ 9223372036854775807) (_h_a_b : -9223372036854775808 ≤ a_b ∧ a_b ≤ 9223372036854775807) (_h_b_t : -9223372036854775808 ≤ b_t ∧ b_t ≤ 9223372036854775807) (_h_b_x : -9223372036854775808 ≤ b_x ∧ b_x ≤ 9223372036854775807) (_h_b_y : -9223372036854775808 ≤ b_y ∧ b_y ≤ 9223372036854775807) (_h_b_h : -9223372036854775808 ≤ b_h ∧ b_h ≤ 9223372036854775807) (_h_b_r : -9223372036854775808 ≤ b_r ∧ b_r ≤ 9223372036854775807) (_h_b_b : -9223372036854775808 ≤ b_b ∧ b_b ≤ 9223372036854775807) (h_s_lat : -9223372036854775808 ≤ s_lat ∧ s_lat ≤ 9223372036854775807) (_h_s_vert : -9223372036854775808 ≤ s_vert ∧ s_vert ≤ 9223372036854775807) (h_p_x : -9223372036854775808 ≤ p_x ∧ p_x ≤ 9223372036854775807) (h_p_y : -9223372036854775808 ≤ p_y ∧ p_y ≤ 9223372036854775807) (h_q_x : -9223372036854775808 ≤ q_x ∧ q_x ≤ 9223372036854775807) (h_q_y : -9223372036854775808 ≤ q_y ∧ q_y ≤ 9223372036854775807) (h_g : -9223372036854775808 ≤ g ∧ g ≤ 9223372036854775807) (h_h : -9223372036854775808 ≤ h ∧ h ≤ 9223372036854775807) :
    Calls Try.prog 11 #[.agg #[.int .i64 a_t, .int .i64 a_x, .int .i64 a_y, .int .i64 a_h, .int .i64 a_r, .int .i64 a_b], .agg #[.int .i64 b_t, .int .i64 b_x, .int .i64 b_y, .int .i64 b_h, .int .i64 b_r, .int .i64 b_b], .agg #[.int .i64 s_lat, .int .i64 s_vert], .agg #[.int .i64 p_x, .int .i64 p_y], .agg #[.int .i64 q_x, .int .i64 q_y], .int .i64 g, .int .i64 h] W fun e w' => e = .returned (.bool true) ∧ Below W.heap.size W w' := by
  obtain ⟨u, f, H1, hf⟩ := has_one a_t a_x a_y a_h a_r a_b p_x p_y g
  obtain ⟨v, f', H2, hg⟩ := has_one b_t b_x b_y b_h b_r b_b q_x q_y h
  obtain ⟨E, hE⟩ : ∃ E, twoE s_lat s_vert (nodeE a_t a_x a_y a_h a_r a_b) (nodeE b_t b_x b_y b_h b_r b_b) = E := ⟨_, rfl⟩
  have SD := fun w => sepd_walk a_t a_x a_y a_h a_r a_b b_t b_x b_y b_h b_r b_b s_lat s_vert E w hE
  by_cases hc : E = 0 ∧ a_t = b_t ∧ sepB a_x a_y a_h a_r a_b b_x b_y b_h b_r b_b s_lat s_vert = true
  · obtain ⟨h0, ht, hs⟩ := hc
    obtain ⟨z0, z1, z2⟩ := twoE_zero (hE.trans h0)
    have sb := sepE_zero z0
    have n1 := (nodeE_bds z1).1
    have n2 := (nodeE_bds z2).1
    have SD' : ∀ w, Calls Try.prog 34 #[.agg #[.int .i64 a_t, .int .i64 a_x, .int .i64 a_y, .int .i64 a_h, .int .i64 a_r, .int .i64 a_b], .agg #[.int .i64 b_t, .int .i64 b_x, .int .i64 b_y, .int .i64 b_h, .int .i64 b_r, .int .i64 b_b], .agg #[.int .i64 s_lat, .int .i64 s_vert]] w fun e w' => e = .returned (.tuple #[.bool true, .int .i64 0]) ∧ Below w.heap.size w w' := fun w => (SD w).mono fun e w' ⟨hh, hb⟩ => by
      refine ⟨?_, hb⟩
      rcases hh with ⟨h, -⟩ | ⟨-, h, -⟩ | ⟨-, -, he⟩
      · exact absurd h0 h
      · exact absurd ht h
      · rw [hs] at he; exact he
    refine body a_t a_x a_y a_h a_r a_b b_t b_x b_y b_h b_r b_b s_lat s_vert p_x p_y q_x q_y g h 0 true u v f f' W (Lib.hid SD') (Lib.hid H1) (Lib.hid H2) (Or.inr ⟨rfl, rfl, ?_⟩)
    rcases hf with hf | ⟨hf, -, c1, g1, g2, hu⟩
    · exact Or.inl (bne.1.2 hf)
    · rcases hg with hg | ⟨hg, -, c2, k1, k2, hv⟩
      · exact Or.inr (Or.inl ⟨bne.2.2 hf, bne.1.2 hg⟩)
      · cases u with
        | false => exact Or.inr (Or.inr (Or.inl ⟨bne.2.2 hf, bne.2.2 hg, rfl⟩))
        | true =>
          cases v with
          | false => exact Or.inr (Or.inr (Or.inr (Or.inl ⟨bne.2.2 hf, bne.2.2 hg, rfl, rfl⟩)))
          | true =>
            have b1 := good_of c1
            have b2 := good_of c2
            unfold good at b1 b2
            have m1 := sq_nonneg s_lat
            have m2 := sq_le_of (x := s_lat) (M := 1000000) (by omega)
            exact Or.inr (Or.inr (Or.inr (Or.inr ⟨bne.2.2 hf, bne.2.2 hg, rfl, rfl, by omega, safe sb.1.1 n1.2.2.1.1 n2.2.2.1.1 hs hu.symm hv.symm⟩)))
  · have SD' : ∃ E', ∀ w, Calls Try.prog 34 #[.agg #[.int .i64 a_t, .int .i64 a_x, .int .i64 a_y, .int .i64 a_h, .int .i64 a_r, .int .i64 a_b], .agg #[.int .i64 b_t, .int .i64 b_x, .int .i64 b_y, .int .i64 b_h, .int .i64 b_r, .int .i64 b_b], .agg #[.int .i64 s_lat, .int .i64 s_vert]] w fun e w' => e = .returned (.tuple #[.bool false, .int .i64 E']) ∧ Below w.heap.size w w' := by
      by_cases h0 : E = 0
      · by_cases ht : a_t = b_t
        · refine ⟨0, fun w => (SD w).mono fun e w' ⟨hh, hb⟩ => ⟨?_, hb⟩⟩
          rcases hh with ⟨h, -⟩ | ⟨-, h, -⟩ | ⟨-, -, he⟩
          · exact absurd h0 h
          · exact absurd ht h
          · cases hs : sepB a_x a_y a_h a_r a_b b_x b_y b_h b_r b_b s_lat s_vert with
            | true => exact absurd ⟨h0, ht, hs⟩ hc
            | false => rw [hs] at he; exact he
        · refine ⟨12, fun w => (SD w).mono fun e w' ⟨hh, hb⟩ => ⟨?_, hb⟩⟩
          rcases hh with ⟨h, -⟩ | ⟨-, -, he⟩ | ⟨-, h, -⟩
          · exact absurd h0 h
          · exact he
          · exact absurd h ht
      · refine ⟨E, fun w => (SD w).mono fun e w' ⟨hh, hb⟩ => ⟨?_, hb⟩⟩
        rcases hh with ⟨-, he⟩ | ⟨h, -⟩ | ⟨h, -⟩
        · exact he
        · exact absurd h h0
        · exact absurd h h0
    obtain ⟨E', SD'⟩ := SD'
    exact body a_t a_x a_y a_h a_r a_b b_t b_x b_y b_h b_r b_b s_lat s_vert p_x p_y q_x q_y g h E' false u v f f' W (Lib.hid SD') (Lib.hid H1) (Lib.hid H2) (Or.inl rfl)
-- FRAME --

set_option maxRecDepth 100000 in
theorem lifted (os : Os) (started : os.Started) (H : Type) (enc : TypeId × Value → H) :
    ReturnsInHanded {} Try.checked os 11 .any (Rows.probeSafeSpec.pre6 enc Try.prog Try.f11 Rows.probeSafeRow.domain false) (Rows.probeSafeSpec.post enc Try.prog Try.f11 false true false false) :=
  Frame.lifted (C := Try.checked) 11 Try.f11 Try.own started (by kernel_rfl) Try.func11 Try.laidOut rfl (by kernel_rfl) 4 rfl Try.underlying4
      (fun ds h => by match ds, h with | [_, _, _, _, _, _, _], _ => rfl)
      (ChangeSpec.witness6 (enc := enc) (C := Try.checked) false ⟨#[], #[.agg #[.int .i64 0, .int .i64 0, .int .i64 0, .int .i64 0, .int .i64 0, .int .i64 0], .agg #[.int .i64 0, .int .i64 0, .int .i64 0, .int .i64 0, .int .i64 0, .int .i64 0], .agg #[.int .i64 0, .int .i64 0], .agg #[.int .i64 0, .int .i64 0], .agg #[.int .i64 0, .int .i64 0], .int .i64 0, .int .i64 0], []⟩ 8 (by kernel_rfl) (by kernel_rfl) (by kernel_rfl) (by kernel_rfl))
      (fun W base args ds ps hval0 hA _ => by
        have hval : ∀ (j : Nat) t v, Try.f11.params[j]? = some t → args[j]? = some v → Value.okWide Try.prog W .any base t v := hval0
        have hA' : DataW.TrodAll enc Try.prog W 0 (fun _ => true) true Try.f11.params.toList args.toList ds ps := hA
        clear hval0 hA
        have hA := hA'
        clear hA'
        rw [Try.params11] at hA hval
        obtain ⟨v0, vs0, d0, ds0, p0, q0, ea, rfl, rfl, tr0, rest0⟩ := trodAll_cons hA
        obtain ⟨v1, vs1, d1, ds1, p1, q1, rfl, rfl, rfl, tr1, rest1⟩ := trodAll_cons rest0
        obtain ⟨v2, vs2, d2, ds2, p2, q2, rfl, rfl, rfl, tr2, rest2⟩ := trodAll_cons rest1
        obtain ⟨v3, vs3, d3, ds3, p3, q3, rfl, rfl, rfl, tr3, rest3⟩ := trodAll_cons rest2
        obtain ⟨v4, vs4, d4, ds4, p4, q4, rfl, rfl, rfl, tr4, rest4⟩ := trodAll_cons rest3
        obtain ⟨v5, vs5, d5, ds5, p5, q5, rfl, rfl, rfl, tr5, rest5⟩ := trodAll_cons rest4
        obtain ⟨v6, vs6, d6, ds6, p6, q6, rfl, rfl, rfl, tr6, rest6⟩ := trodAll_cons rest5
        obtain ⟨rfl, rfl, rfl⟩ := trodAll_nil rest6
        obtain rfl : args = #[v0, v1, v2, v3, v4, v5, v6] := by cases args; simp_all
        clear ea
        obtain ⟨cs_a, e_a, hl_a, hc_a⟩ := Frame.arg_agg Try.underlying47 (k := 8) (ks := [.int, .int, .int, .int, .int, .int]) (by kernel_rfl) (hval 0 _ v0 rfl rfl) tr0
        subst e_a
        obtain ⟨c_a_t, c_a_x, c_a_y, c_a_h, c_a_r, c_a_b, rfl⟩ : ∃ c_a_t c_a_x c_a_y c_a_h c_a_r c_a_b, cs_a = [c_a_t, c_a_x, c_a_y, c_a_h, c_a_r, c_a_b] := by match cs_a, hl_a with | [x0, x1, x2, x3, x4, x5], _ => exact ⟨x0, x1, x2, x3, x4, x5, rfl⟩
        have o_a_t : Frame.Okc W (.int) c_a_t := hc_a 0 (by decide) (by simp)
        obtain ⟨a_t, e_a_t, w_a_t⟩ := o_a_t.int_inv; subst e_a_t
        have o_a_x : Frame.Okc W (.int) c_a_x := hc_a 1 (by decide) (by simp)
        obtain ⟨a_x, e_a_x, w_a_x⟩ := o_a_x.int_inv; subst e_a_x
        have o_a_y : Frame.Okc W (.int) c_a_y := hc_a 2 (by decide) (by simp)
        obtain ⟨a_y, e_a_y, w_a_y⟩ := o_a_y.int_inv; subst e_a_y
        have o_a_h : Frame.Okc W (.int) c_a_h := hc_a 3 (by decide) (by simp)
        obtain ⟨a_h, e_a_h, w_a_h⟩ := o_a_h.int_inv; subst e_a_h
        have o_a_r : Frame.Okc W (.int) c_a_r := hc_a 4 (by decide) (by simp)
        obtain ⟨a_r, e_a_r, w_a_r⟩ := o_a_r.int_inv; subst e_a_r
        have o_a_b : Frame.Okc W (.int) c_a_b := hc_a 5 (by decide) (by simp)
        obtain ⟨a_b, e_a_b, w_a_b⟩ := o_a_b.int_inv; subst e_a_b
        obtain ⟨cs_b, e_b, hl_b, hc_b⟩ := Frame.arg_agg Try.underlying47 (k := 8) (ks := [.int, .int, .int, .int, .int, .int]) (by kernel_rfl) (hval 1 _ v1 rfl rfl) tr1
        subst e_b
        obtain ⟨c_b_t, c_b_x, c_b_y, c_b_h, c_b_r, c_b_b, rfl⟩ : ∃ c_b_t c_b_x c_b_y c_b_h c_b_r c_b_b, cs_b = [c_b_t, c_b_x, c_b_y, c_b_h, c_b_r, c_b_b] := by match cs_b, hl_b with | [x0, x1, x2, x3, x4, x5], _ => exact ⟨x0, x1, x2, x3, x4, x5, rfl⟩
        have o_b_t : Frame.Okc W (.int) c_b_t := hc_b 0 (by decide) (by simp)
        obtain ⟨b_t, e_b_t, w_b_t⟩ := o_b_t.int_inv; subst e_b_t
        have o_b_x : Frame.Okc W (.int) c_b_x := hc_b 1 (by decide) (by simp)
        obtain ⟨b_x, e_b_x, w_b_x⟩ := o_b_x.int_inv; subst e_b_x
        have o_b_y : Frame.Okc W (.int) c_b_y := hc_b 2 (by decide) (by simp)
        obtain ⟨b_y, e_b_y, w_b_y⟩ := o_b_y.int_inv; subst e_b_y
        have o_b_h : Frame.Okc W (.int) c_b_h := hc_b 3 (by decide) (by simp)
        obtain ⟨b_h, e_b_h, w_b_h⟩ := o_b_h.int_inv; subst e_b_h
        have o_b_r : Frame.Okc W (.int) c_b_r := hc_b 4 (by decide) (by simp)
        obtain ⟨b_r, e_b_r, w_b_r⟩ := o_b_r.int_inv; subst e_b_r
        have o_b_b : Frame.Okc W (.int) c_b_b := hc_b 5 (by decide) (by simp)
        obtain ⟨b_b, e_b_b, w_b_b⟩ := o_b_b.int_inv; subst e_b_b
        obtain ⟨cs_s, e_s, hl_s, hc_s⟩ := Frame.arg_agg Try.underlying70 (k := 8) (ks := [.int, .int]) (by kernel_rfl) (hval 2 _ v2 rfl rfl) tr2
        subst e_s
        obtain ⟨c_s_lat, c_s_vert, rfl⟩ : ∃ c_s_lat c_s_vert, cs_s = [c_s_lat, c_s_vert] := by match cs_s, hl_s with | [x0, x1], _ => exact ⟨x0, x1, rfl⟩
        have o_s_lat : Frame.Okc W (.int) c_s_lat := hc_s 0 (by decide) (by simp)
        obtain ⟨s_lat, e_s_lat, w_s_lat⟩ := o_s_lat.int_inv; subst e_s_lat
        have o_s_vert : Frame.Okc W (.int) c_s_vert := hc_s 1 (by decide) (by simp)
        obtain ⟨s_vert, e_s_vert, w_s_vert⟩ := o_s_vert.int_inv; subst e_s_vert
        obtain ⟨cs_p, e_p, hl_p, hc_p⟩ := Frame.arg_agg Try.underlying26 (k := 8) (ks := [.int, .int]) (by kernel_rfl) (hval 3 _ v3 rfl rfl) tr3
        subst e_p
        obtain ⟨c_p_x, c_p_y, rfl⟩ : ∃ c_p_x c_p_y, cs_p = [c_p_x, c_p_y] := by match cs_p, hl_p with | [x0, x1], _ => exact ⟨x0, x1, rfl⟩
        have o_p_x : Frame.Okc W (.int) c_p_x := hc_p 0 (by decide) (by simp)
        obtain ⟨p_x, e_p_x, w_p_x⟩ := o_p_x.int_inv; subst e_p_x
        have o_p_y : Frame.Okc W (.int) c_p_y := hc_p 1 (by decide) (by simp)
        obtain ⟨p_y, e_p_y, w_p_y⟩ := o_p_y.int_inv; subst e_p_y
        obtain ⟨cs_q, e_q, hl_q, hc_q⟩ := Frame.arg_agg Try.underlying26 (k := 8) (ks := [.int, .int]) (by kernel_rfl) (hval 4 _ v4 rfl rfl) tr4
        subst e_q
        obtain ⟨c_q_x, c_q_y, rfl⟩ : ∃ c_q_x c_q_y, cs_q = [c_q_x, c_q_y] := by match cs_q, hl_q with | [x0, x1], _ => exact ⟨x0, x1, rfl⟩
        have o_q_x : Frame.Okc W (.int) c_q_x := hc_q 0 (by decide) (by simp)
        obtain ⟨q_x, e_q_x, w_q_x⟩ := o_q_x.int_inv; subst e_q_x
        have o_q_y : Frame.Okc W (.int) c_q_y := hc_q 1 (by decide) (by simp)
        obtain ⟨q_y, e_q_y, w_q_y⟩ := o_q_y.int_inv; subst e_q_y
        obtain ⟨g, rfl, w_g⟩ := Frame.arg_int Try.underlying3 (hval 5 _ v5 rfl rfl)
        obtain ⟨h, rfl, w_h⟩ := Frame.arg_int Try.underlying3 (hval 6 _ v6 rfl rfl)
        exact walk a_t a_x a_y a_h a_r a_b b_t b_x b_y b_h b_r b_b s_lat s_vert p_x p_y q_x q_y g h W w_a_t w_a_x w_a_y w_a_h w_a_r w_a_b w_b_t w_b_x w_b_y w_b_h w_b_r w_b_b w_s_lat w_s_vert w_p_x w_p_y w_q_x w_q_y (Frame.bd w_g) (Frame.bd w_h))

/-- The statement. -/
theorem proved : Rows.ProbeSafeSaid :=
  OpenClaim.holds_of_wide 11 Try.f11 rfl rfl rfl rfl rfl rfl rfl ⟨rfl, rfl, rfl, rfl, rfl⟩ rfl rfl rfl rfl rfl (by kernel_rfl) Try.func11 (by kernel_rfl)
    (of_decide_eq_true (by kernel_rfl)) (by unfold Func.isWrapper; first | (rw [if_pos (by decide +kernel)]; kernel_rfl) | (rw [if_neg (by decide +kernel)]; exact ⟨rfl, rfl⟩))
    (fun os started H enc _ => lifted os started H enc)
#print axioms proved
end ProbeSafe
end Go.Proofs.Ytampbjbalenckaa

