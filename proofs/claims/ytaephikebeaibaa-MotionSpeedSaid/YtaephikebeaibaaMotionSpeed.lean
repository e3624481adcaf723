/- MotionSpeed answers true for all motions and times. -/
import Derived.Test.YtaephikebeaibaaMotion
namespace Go.Proofs.Ytaephikebeaibaa
open Go.RowKit
namespace MotionSpeed
open Kit Plane Motion
set_option maxHeartbeats 600000 in
theorem bad (t0 t1 ax ay bx by' t E : Int) (w : World) (S1 : Hid (SC t0 t1 ax ay bx by' 0 0 E)) (C1 : Hid (MC t0 t1 ax ay bx by' E)) (hE1 : (E == 0) = false) (hE2 : (E != 0) = true) :
    Calls Try.prog 11 #[.agg #[.int .i64 t0, .int .i64 t1, .int .i64 ax, .int .i64 ay, .int .i64 bx, .int .i64 by'], .int .i64 t] w fun e w' => e = .returned (.bool true) ∧ Below w.heap.size w w' := by
  go_enter Try.func11, Try.ntmps11
  go_wp2_with fail
  refine (motionWorks _).mono ?_; rintro e w1 ⟨rfl, hb⟩
  have hw := b_next (b_alloc (Below.refl _ w) _) hb
  have hm := m6_keep hb (m6_new w _ t0 t1 ax ay bx by')
  clear hb
  go_wp2_with fail
  refine (S1.out _).mono ?_; rintro e w2 ⟨rfl, hb⟩
  replace hw := b_next hw hb; replace hm := m6_keep hb hm
  clear hb
  go_wp2_with fail
  refine (C1.out _).mono ?_; rintro e w3 ⟨rfl, hb⟩
  replace hw := b_next hw hb
  clear hb
  go_wp2_with fail
  go_ret
  exact ⟨rfl, hw⟩
set_option maxHeartbeats 600000 in
theorem good_ (t0 t1 ax ay bx by' t lo hi dt R Q S K T px py qx qy : Int) (w : World) (S1 : Hid (SC t0 t1 ax ay bx by' lo hi 0)) (A1 : Hid (AT t0 t1 ax ay bx by' T px py 0)) (A2 : Hid (AT t0 t1 ax ay bx by' (T + 1) qx qy 0))
    (e1 : IntKind.i64.wrap (t1 - t0) = dt) (e2 : t.tmod dt = R) (e3 : IntKind.i64.wrap (R + t1) = Q) (e4 : IntKind.i64.wrap (Q - t0) = S) (e5 : S.tmod dt = K) (e6 : IntKind.i64.wrap (t0 + K) = T) (hdt : ¬ dt = 0) (hT : 0 ≤ T ∧ T ≤ 200000)
    (hl : 0 ≤ lo ∧ lo ≤ 10000000) (hh : 0 ≤ hi ∧ hi ≤ 10000000) (h1 : hi - lo ≤ 1)
    (I1 : Hid (∀ w : World, Calls Try.prog 19 #[.agg #[.int .i64 px, .int .i64 py], .agg #[.int .i64 qx, .int .i64 qy], .int .i64 (hi + 2)] w fun e w' => e = .returned (.bool true) ∧ Below w.heap.size w w')) :
    Calls Try.prog 11 #[.agg #[.int .i64 t0, .int .i64 t1, .int .i64 ax, .int .i64 ay, .int .i64 bx, .int .i64 by'], .int .i64 t] w fun e w' => e = .returned (.bool true) ∧ Below w.heap.size w w' := by
  go_enter Try.func11, Try.ntmps11
  go_wp2_with fail
  refine (motionWorks _).mono ?_; rintro e w1 ⟨rfl, hb⟩
  have hw := b_next (b_alloc (Below.refl _ w) _) hb
  have hm := m6_keep hb (m6_new w _ t0 t1 ax ay bx by')
  clear hb
  go_wp2_with fail
  refine (S1.out _).mono ?_; rintro e w2 ⟨rfl, hb⟩
  replace hw := b_next hw hb; replace hm := m6_keep hb hm
  clear hb
  go_wp2_with fail
  refine region_below (by kernel_rfl) (by kernel_rfl) ?_
  repeat
    (refine q_step rfl ?_
     apply Exists.intro
     refine ⟨fun wq hc hq => ?_, ?_⟩
     · have pa' := m6_keep hq hm; clear hc
       go_simp
       first
         | rfl
     simp only [Act.put, List.setIfInBounds_toArray, List.set_cons_zero, List.set_cons_succ])
  refine wpQuiet_nil ?_
  intro w3 hb
  replace hw := b_next hw hb; replace hm := m6_keep hb hm
  clear hb e1 e2 e3 e4 e5 e6
  go_wp2_with fail
  refine (A1.out _).mono ?_; rintro e w4 ⟨rfl, hb⟩
  replace hw := b_alloc (b_next hw hb) (.cells #[.int .i64 px, .int .i64 py] 23)
  replace hm := m6_alloc (.cells #[.int .i64 px, .int .i64 py] 23) (m6_keep hb hm)
  have hp := p2_new w4 23 px py
  clear hb
  go_wp2_with fail
  refine (A2.out _).mono ?_; rintro e w5 ⟨rfl, hb⟩
  replace hw := b_alloc (b_next hw hb) (.cells #[.int .i64 qx, .int .i64 qy] 23)
  replace hp := p2_alloc (.cells #[.int .i64 qx, .int .i64 qy] 23) (p2_keep hb hp)
  have hq := p2_new w5 23 qx qy
  clear hb hm
  go_wp2_with fail
  refine (I1.out _).mono ?_; rintro e w6 ⟨rfl, hb⟩
  replace hw := b_next hw hb
  clear hb
  go_wp2_with fail
  go_ret
  exact ⟨rfl, hw⟩
/-- Two consecutive places, and the speed rounded up. -/
theorem places {a b k dt : Int} (hdt : 0 < dt) : -dt < dt * (tw a b k dt - tw a b (k + 1) dt) + (b - a) ∧ dt * (tw a b k dt - tw a b (k + 1) dt) + (b - a) < dt := by
  have e1 := Int.mul_ediv_add_emod ((b - a) * k) dt
  have e2 := Int.emod_nonneg ((b - a) * k) (show dt ≠ 0 by omega)
  have e3 := Int.emod_lt_of_pos ((b - a) * k) hdt
  have f1 := Int.mul_ediv_add_emod ((b - a) * (k + 1)) dt
  have f2 := Int.emod_nonneg ((b - a) * (k + 1)) (show dt ≠ 0 by omega)
  have f3 := Int.emod_lt_of_pos ((b - a) * (k + 1)) hdt
  have g : (b - a) * (k + 1) = (b - a) * k + (b - a) := by grind
  have h : dt * (tw a b k dt - tw a b (k + 1) dt) = dt * ((b - a) * k / dt) - dt * ((b - a) * (k + 1) / dt) := by unfold tw; grind
  rw [h]
  rw [g] at f1 f2 f3 ⊢
  generalize dt * ((b - a) * k / dt) = u at *
  generalize dt * (((b - a) * k + (b - a)) / dt) = v at *
  omega
theorem within_ {vx vy cx cy dt D H : Int} (hdt : 0 < dt) (hD : 0 ≤ D) (hH : 0 ≤ H) (hv : vx * vx + vy * vy ≤ D * D) (hc : D ≤ dt * H) (x1 : -dt < dt * cx + vx) (x2 : dt * cx + vx < dt) (y1 : -dt < dt * cy + vy) (y2 : dt * cy + vy < dt) : cx * cx + cy * cy ≤ (H + 2) * (H + 2) := by
  have r1 := sq_le_of (x := dt * cx + vx) (M := dt) (by omega)
  have r2 := sq_le_of (x := dt * cy + vy) (M := dt) (by omega)
  have e : (2 * dt) * (2 * dt) = 4 * (dt * dt) := by grind
  have d0 := sq_nonneg dt
  have h := tri_sq (px := dt * cx + vx) (py := dt * cy + vy) (qx := -vx) (qy := -vy) (u := 2 * dt) (v := D) (by omega) hD (by rw [e]; generalize dt * dt = t at *; omega) (by rw [Int.neg_mul_neg, Int.neg_mul_neg]; exact hv)
  rw [show dt * cx + vx + -vx = dt * cx from by omega, show dt * cy + vy + -vy = dt * cy from by omega] at h
  have g1 : (dt * cx) * (dt * cx) + (dt * cy) * (dt * cy) = (dt * dt) * (cx * cx + cy * cy) := by grind
  have g0 : dt * (H + 2) = dt * H + 2 * dt := by grind
  have g2 : (2 * dt + D) * (2 * dt + D) ≤ (dt * (H + 2)) * (dt * (H + 2)) := sq_mono (by omega) (by omega)
  have g3 : (dt * (H + 2)) * (dt * (H + 2)) = (dt * dt) * ((H + 2) * (H + 2)) := by grind
  rw [g1] at h
  have h' := Int.le_trans h g2
  rw [g3] at h'
  exact Int.le_of_mul_le_mul_left h' (Int.mul_pos hdt hdt)
theorem walk (t0 t1 ax ay bx by' t : Int) (w : World) (_ : -9223372036854775808 ≤ t0 ∧ t0 ≤ 9223372036854775807) (_ : -9223372036854775808 ≤ t1 ∧ t1 ≤ 9223372036854775807) (_ : -9223372036854775808 ≤ ax ∧ ax ≤ 9223372036854775807)
    (_ : -9223372036854775808 ≤ ay ∧ ay ≤ 9223372036854775807) (_ : -9223372036854775808 ≤ bx ∧ bx ≤ 9223372036854775807) (_ : -9223372036854775808 ≤ by' ∧ by' ≤ 9223372036854775807) (_ : -9223372036854775808 ≤ t ∧ t ≤ 9223372036854775807) :
    Calls Try.prog 11 #[.agg #[.int .i64 t0, .int .i64 t1, .int .i64 ax, .int .i64 ay, .int .i64 bx, .int .i64 by'], .int .i64 t] w fun e w' => e = .returned (.bool true) ∧ Below w.heap.size w w' := by
  by_cases h : mok t0 t1 ax ay bx by'
  · obtain ⟨⟨b1, b2, b3⟩, ga, gb⟩ := id h
    have hr : -(t1 - t0) < t.tmod (t1 - t0) ∧ t.tmod (t1 - t0) < t1 - t0 := by
      have := (Num.tdiv_facts t (t1 - t0) (by omega)).2.2.2.1 (by omega); omega
    have hk : 0 ≤ (t.tmod (t1 - t0) + t1 - t0).tmod (t1 - t0) ∧ (t.tmod (t1 - t0) + t1 - t0).tmod (t1 - t0) < t1 - t0 := by
      have := Num.tdiv_facts (t.tmod (t1 - t0) + t1 - t0) (t1 - t0) (by omega)
      have a := this.2.1 (by omega)
      have b := this.2.2.2.1 (by omega)
      omega
    have s0 := sqr_nonneg ax ay bx by'
    have r1 := root_spec s0
    have u1 := dup_spec s0
    have l1 := dup_le s0 (sqr_near ga gb)
    have n1 := dup_near (sqr ax ay bx by')
    have hlo := Num.fd_spec_pos (a := root (sqr ax ay bx by')) (b := t1 - t0) (by omega)
    have hhi : 0 ≤ Num.du (dup (sqr ax ay bx by')) (t1 - t0) ∧ dup (sqr ax ay bx by') ≤ (t1 - t0) * Num.du (dup (sqr ax ay bx by')) (t1 - t0) ∧ (t1 - t0) * Num.du (dup (sqr ax ay bx by')) (t1 - t0) < dup (sqr ax ay bx by') + (t1 - t0) := du_spec u1.1 (by omega)
    rw [Num.fd_pos (by omega)] at hlo
    have hlo0 : 0 ≤ root (sqr ax ay bx by') / (t1 - t0) := Int.ediv_nonneg r1.1 (by omega)
    have hlo1 : root (sqr ax ay bx by') / (t1 - t0) ≤ root (sqr ax ay bx by') := Int.ediv_le_self _ r1.1
    generalize hK : (t.tmod (t1 - t0) + t1 - t0).tmod (t1 - t0) = K at *
    have hdt : 0 < t1 - t0 := by omega
    have px := places (a := ax) (b := bx) (k := K) hdt
    have py := places (a := ay) (b := by') (k := K) hdt
    have hsv : (bx - ax) * (bx - ax) + (by' - ay) * (by' - ay) ≤ dup (sqr ax ay bx by') * dup (sqr ax ay bx by') := by
      have := u1.2.1; unfold sqr at this ⊢; grind
    have hin := within_ (vx := bx - ax) (vy := by' - ay) hdt u1.1 hhi.1 hsv hhi.2.1 px.1 px.2 py.1 py.2
    have hh1 : Num.du (dup (sqr ax ay bx by')) (t1 - t0) - root (sqr ax ay bx by') / (t1 - t0) ≤ 1 := by
      rcases Int.lt_or_le 1 (Num.du (dup (sqr ax ay bx by')) (t1 - t0) - root (sqr ax ay bx by') / (t1 - t0)) with hh | hh
      · exfalso
        have := Int.mul_le_mul_of_nonneg_left (show root (sqr ax ay bx by') / (t1 - t0) + 2 ≤ Num.du (dup (sqr ax ay bx by')) (t1 - t0) by omega) (show 0 ≤ t1 - t0 by omega)
        have e : (t1 - t0) * (root (sqr ax ay bx by') / (t1 - t0) + 2) = (t1 - t0) * (root (sqr ax ay bx by') / (t1 - t0)) + 2 * (t1 - t0) := by grind
        generalize (t1 - t0) * (root (sqr ax ay bx by') / (t1 - t0)) = u at *
        generalize (t1 - t0) * Num.du (dup (sqr ax ay bx by')) (t1 - t0) = v at *
        omega
      · exact hh
    have g1 := tw_good (a := ax) (b := bx) (n := K) (d := t1 - t0) (by omega) (by omega) hdt (by omega) (by omega)
    have g2 := tw_good (a := ay) (b := by') (n := K) (d := t1 - t0) (by omega) (by omega) hdt (by omega) (by omega)
    have g3 := tw_good (a := ax) (b := bx) (n := K + 1) (d := t1 - t0) (by omega) (by omega) hdt (by omega) (by omega)
    have g4 := tw_good (a := ay) (b := by') (n := K + 1) (d := t1 - t0) (by omega) (by omega) hdt (by omega) (by omega)
    have hHle : Num.du (dup (sqr ax ay bx by')) (t1 - t0) ≤ 2828430 := by omega
    have c1 := at_ok (t := t0 + K) h (by omega) (by omega)
    have c2 := at_ok (t := t0 + K + 1) h (by omega) (by omega)
    rw [show t0 + K - t0 = K from by omega] at c1
    rw [show t0 + K + 1 - t0 = K + 1 from by omega] at c2
    refine good_ t0 t1 ax ay bx by' t _ _ (t1 - t0) (t.tmod (t1 - t0)) (t.tmod (t1 - t0) + t1) (t.tmod (t1 - t0) + t1 - t0) K (t0 + K) _ _ _ _ w (speed_ok h) c1 c2 (IntWalk.i64_in _ (by omega)) rfl (IntWalk.i64_in _ (by omega)) (IntWalk.i64_in _ (by omega)) hK
      (IntWalk.i64_in _ (by omega)) (by omega) (by omega) ⟨hlo0, by omega⟩ ⟨hhi.1, by omega⟩ hh1 (fun w => ?_)
    have c := within (tw ax bx K (t1 - t0)) (tw ay by' K (t1 - t0)) (tw ax bx (K + 1) (t1 - t0)) (tw ay by' (K + 1) (t1 - t0)) (Num.du (dup (sqr ax ay bx by')) (t1 - t0) + 2) w rfl (by omega)
    rw [show inB (sqr (tw ax bx K (t1 - t0)) (tw ay by' K (t1 - t0)) (tw ax bx (K + 1) (t1 - t0)) (tw ay by' (K + 1) (t1 - t0))) (Num.du (dup (sqr ax ay bx by')) (t1 - t0) + 2) = true from by
      unfold inB; rw [decide_eq_true_eq]; exact ⟨by omega, by omega, hin⟩] at c
    exact c
  · obtain ⟨hE, hE'⟩ := ne_bool (mchk_bad h)
    exact bad t0 t1 ax ay bx by' t _ w (speed_bad h) (fun w => checkC t0 t1 ax ay bx by' w) hE hE'
-- FRAME --

set_option maxRecDepth 100000 in
theorem lifted (os : Os) (started : os.Started) (H : Type) (enc : TypeId × Value → H) :
    ReturnsInHanded {} Try.checked os 11 .any (Rows.motionSpeedSpec.pre6 enc Try.prog Try.f11 Rows.motionSpeedRow.domain false) (Rows.motionSpeedSpec.post enc Try.prog Try.f11 false true false false) :=
  Frame.lifted (C := Try.checked) 11 Try.f11 Try.own started (by kernel_rfl) Try.func11 Try.laidOut rfl (by kernel_rfl) 4 rfl Try.underlying4
      (fun ds h => by match ds, h with | [_, _], _ => rfl)
      (ChangeSpec.witness6 (enc := enc) (C := Try.checked) false ⟨#[], #[.agg #[.int .i64 0, .int .i64 0, .int .i64 0, .int .i64 0, .int .i64 0, .int .i64 0], .int .i64 0], []⟩ 8 (by kernel_rfl) (by kernel_rfl) (by kernel_rfl) (by kernel_rfl))
      (fun W base args ds ps hval0 hA _ => by
        have hval : ∀ (j : Nat) t v, Try.f11.params[j]? = some t → args[j]? = some v → Value.okWide Try.prog W .any base t v := hval0
        have hA' : DataW.TrodAll enc Try.prog W 0 (fun _ => true) true Try.f11.params.toList args.toList ds ps := hA
        clear hval0 hA
        have hA := hA'
        rw [Try.params11] at hA hval
        obtain ⟨v0, v1, d0, d1, p0, p1, rfl, _, _, _, _⟩ := ChangeShapes.trodAll_two hA
        obtain ⟨ns_m, rfl, hl_m, hw_m⟩ := Frame.arg_flat _ Try.underlying55 (ts := [3, 3, 3, 3, 3, 3]) (by kernel_rfl) (by kernel_rfl) (by intro u hu; simp at hu; rw [hu]; exact Try.underlying3) (hval 0 _ _ rfl rfl)
        obtain ⟨m_t0, m_t1, m_ax, m_ay, m_bx, m_by, rfl⟩ := Frame.list6 hl_m
        obtain ⟨t, rfl, w_t⟩ := Frame.arg_int Try.underlying3 (hval 1 _ _ rfl rfl)
        exact (walk m_t0 m_t1 m_ax m_ay m_bx m_by t W (Frame.bd (hw_m _ (by simp))) (Frame.bd (hw_m _ (by simp))) (Frame.bd (hw_m _ (by simp))) (Frame.bd (hw_m _ (by simp))) (Frame.bd (hw_m _ (by simp))) (Frame.bd (hw_m _ (by simp))) (Frame.bd w_t)).mono fun e w' ⟨he, hw⟩ => ⟨he, hw⟩)

/-- The statement. -/
theorem proved : Rows.MotionSpeedSaid :=
  OpenClaim.holds_of_wide 11 Try.f11 rfl rfl rfl rfl rfl rfl rfl ⟨rfl, rfl, rfl, rfl, rfl⟩ rfl rfl rfl rfl rfl (by kernel_rfl) Try.func11 (by kernel_rfl)
    (of_decide_eq_true (by kernel_rfl)) (by unfold Func.isWrapper; first | (rw [if_pos (by decide +kernel)]; kernel_rfl) | (rw [if_neg (by decide +kernel)]; exact ⟨rfl, rfl⟩))
    (fun os started H enc _ => lifted os started H enc)
#print axioms proved
end MotionSpeed
end Go.Proofs.Ytaephikebeaibaa

