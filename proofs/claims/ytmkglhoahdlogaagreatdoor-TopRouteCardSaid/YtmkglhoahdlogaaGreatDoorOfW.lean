/- OfW. -/
import Derived.Test.YtmkglhoahdlogaaGreatDoorJ24
import Derived.Test.YtmkglhoahdlogaaGreatDoorJ01
namespace Go.Proofs.YtmkglhoahdlogaaGreatDoor
open Go.RowKit
namespace Ang
open Kit
theorem tabs_keep {W w1 : World} (hb : Below W.heap.size W w1) (h : Tabs W) : Tabs w1 :=
  ⟨keep hb h.c0, keep hb h.c1, keep hb h.c2, keep hb h.c3, keep hb h.c4, keep hb h.c5, keep hb h.s0, keep hb h.s1, keep hb h.s2, keep hb h.s3, keep hb h.s4, keep hb h.s5⟩
set_option maxRecDepth 100000 in
theorem cross_w (ax ay bx by' P Q : Int) (w : World) (e1 : ay * bx = P) (e2 : ax * by' = Q) (b1 : -100000000000 ≤ P ∧ P ≤ 100000000000) (b2 : -100000000000 ≤ Q ∧ Q ≤ 100000000000) :
    Calls Tryz.prog 112 #[.agg #[.int .i64 ax, .int .i64 ay], .agg #[.int .i64 bx, .int .i64 by']] w fun e w' => e = .returned (.int .i64 (P - Q)) ∧ Below w.heap.size w w' := by
  go_enter Tryz.func112, Tryz.ntmps112
  go_wp2
  go_ret
  exact ⟨by first | rfl | exact Kit.ret1 (by omega), b_alloc (b_alloc (Below.refl _ _) _) _⟩
theorem unit_w (h : Int) (w : World) (T : Tabs w) : Calls Tryz.prog 111 #[.int .i64 h] w fun e w' => e = .returned (.agg #[.int .i64 (sn h), .int .i64 (sn (h + 1024))]) ∧ Below w.heap.size w w' := by
  have w2 := b_alloc (Below.refl w.heap.size w) (.cells #[.int .i64 0, .int .i64 0] 36)
  have S1 := Lib.hid (sinA h (tabs_keep w2 T))
  have S2 := Lib.hid (cosA h (tabs_keep w2 T))
  clear w2 T
  generalize sn h = a at *
  generalize sn (h + 1024) = b at *
  go_enter Tryz.func111, Tryz.ntmps111
  go_wp2_with fail
  (with_reducible refine S1.out.mono ?_); rintro e w1 ⟨rfl, rfl⟩
  go_wp2_with fail
  (with_reducible refine S2.out.mono ?_); rintro e w1 ⟨rfl, rfl⟩
  go_wp2_with fail
  refine bodyPost_ret (v := .agg #[.int .i64 a, .int .i64 b]) (by simp [results, Tryz.results111, go_sem]) rfl ⟨rfl, ?_⟩
  first
    | exact b_alloc (Below.refl _ _) _
    | exact b_set (b_set (b_alloc (Below.refl _ _) _) (Nat.le_refl _) _) (Nat.le_refl _) _
theorem mul_bd2 {s x : Int} (h : -16384 ≤ s ∧ s ≤ 16384) (g : -2000000 ≤ x ∧ x ≤ 2000000) : -32768000000 ≤ s * x ∧ s * x ≤ 32768000000 := by
  have h1 : 0 ≤ (16384 - s) * (2000000 + x) := Int.mul_nonneg (by omega) (by omega)
  have h2 : 0 ≤ (16384 + s) * (2000000 - x) := Int.mul_nonneg (by omega) (by omega)
  have h3 : 0 ≤ (16384 - s) * (2000000 - x) := Int.mul_nonneg (by omega) (by omega)
  have h4 : 0 ≤ (16384 + s) * (2000000 + x) := Int.mul_nonneg (by omega) (by omega)
  have e1 : (16384 - s) * (2000000 + x) = 32768000000 + 16384 * x - 2000000 * s - s * x := by grind
  have e2 : (16384 + s) * (2000000 - x) = 32768000000 - 16384 * x + 2000000 * s - s * x := by grind
  have e3 : (16384 - s) * (2000000 - x) = 32768000000 - 16384 * x - 2000000 * s + s * x := by grind
  have e4 : (16384 + s) * (2000000 + x) = 32768000000 + 16384 * x + 2000000 * s + s * x := by grind
  omega
abbrev InR (x : Int) : Prop := -2000000 ≤ x ∧ x ≤ 2000000
/-- The angle that angle.Of asks of in round k. -/
def Hk (g : Int) (k : Nat) : Int := if k % 2 = 1 then (g - k) % 4096 else (g + k) % 4096
/-- The contract of unit at some angle, in any world behind w. -/
abbrev UnC (w : World) (h a b : Int) : Prop := ∀ w1, Below w.heap.size w w1 → Calls Tryz.prog 111 #[.int .i64 h] w1 fun e w' => e = .returned (.agg #[.int .i64 a, .int .i64 b]) ∧ Below w1.heap.size w1 w'
set_option maxRecDepth 100000 in
set_option maxHeartbeats 8000000 in
theorem of_ok (x y r : Int) (w : World) (hx : InR x) (hy : InR y) (hz : ¬ (x = 0 ∧ y = 0)) (T : Hid (Tabs w)) (HR : Hid (OfV x y r)) :
    Calls Tryz.prog 92 #[.agg #[.int .i64 x, .int .i64 y]] w fun e w' => e = .returned (.tuple #[.int .i64 r, .int .i64 0]) ∧ Below w.heap.size w w' := by
  have PX0 := Lib.hid (p2_new w 36 x y)
  have W0 := Lib.hid (b_alloc (Below.refl w.heap.size w) (.cells #[.int .i64 x, .int .i64 y] 36))
  obtain ⟨hx1, hx2⟩ := hx
  obtain ⟨hy1, hy2⟩ := hy
  have c1 : ∀ w, (convert 3 179 (.int .i64 x)).run Tryz.prog w = .ok (.float .f64 (floatOfInt .f64 x)) w := fun w => run_convert_int_float w _ _ .i64 .f64 x (by rw [Tryz.underlying3]; rfl) Tryz.underlying179
  have c2 : ∀ w, (convert 3 179 (.int .i64 y)).run Tryz.prog w = .ok (.float .f64 (floatOfInt .f64 y)) w := fun w => run_convert_int_float w _ _ .i64 .f64 y (by rw [Tryz.underlying3]; rfl) Tryz.underlying179
  generalize floatOfInt .f64 x = fx at *
  generalize floatOfInt .f64 y = fy at *
  have z0 : (x == 0 && y == 0) = false := by
    cases h : (x == 0 && y == 0) with
    | false => rfl
    | true => rw [Bool.and_eq_true, beq_iff_eq, beq_iff_eq] at h; exact absurd h hz
  have HX := Lib.hid (And.intro hx1 hx2); have HY := Lib.hid (And.intro hy1 hy2)
  go_enter Tryz.func92, Tryz.ntmps92
  obtain ⟨w0, hw0⟩ : ∃ w0, w0 = w.alloc (.cells #[.int .i64 x, .int .i64 y] 36) := ⟨_, rfl⟩
  rw [← hw0] at PX0 W0
  obtain ⟨p0, p1⟩ := PX0.out
  have HW := Lib.hid hw0; clear hw0
  have hzz : x = 0 → ¬ y = 0 := fun a b => hz ⟨a, b⟩
  clear z0
  by_cases hx0 : x = 0
  · have e0 : (x == 0) = true := by simp [hx0]
    have e1 : (y == 0) = false := by simp [hzz hx0]
    clear hx0 hzz hz
    go_wp2_with fail
    rw [← HW.out]
    (with_reducible refine (atan2P_w fx fy w0).mono ?_); rintro e w1 ⟨ra, rfl, da⟩
    obtain ⟨m1, w2, h2, d2⟩ := ar_any (P := Tryz.prog) .mul (by simp) ra 4656722014701092864 w1
    obtain ⟨m2, w3, h3, d3⟩ := ar_any (P := Tryz.prog) .quo (by simp) m1 4614256656552045848 w2
    have D3 := Lib.hid (dr_trans (dr_trans da d2) d3); clear da d2 d3
    go_wp2_with fail
    (with_reducible refine (floor_w m2 w3).mono ?_); rintro e w4 ⟨rb, rfl, db⟩
    obtain ⟨g, w5, h5, gb, d5⟩ := fi_any rb w4
    have W5 := Lib.hid (b_next W0.out (dr_below (dr_trans (dr_trans D3.out db) d5)))
    have PX := Lib.hid (p2_keep (dr_below (dr_trans (dr_trans D3.out db) d5)) PX0.out)
    clear db d5 h2 h3 p0 p1
    go_wp2_with fail
    obtain ⟨h0, a0, a1, sec, hrr⟩ := HR.out
    have SE := Lib.hid sec; have HRR := Lib.hid hrr; clear sec hrr
    have UN : Hid (∀ h, UnC w h (sn h) (sn (h + 1024))) := Lib.hid fun h w1 hb => unit_w h w1 (tabs_keep hb T.out)
    go_loopw [50] (fun s wr => ∃ k : Nat, k ≤ 4096 ∧ s = .int .i64 k ∧ (∀ j, j < k → ¬ Hk g j = h0) ∧ Below w5.heap.size w5 wr) (fun s _ => 4096 - (intOf s).toNat)
    case atStart => exact ⟨0, Nat.zero_le _, rfl, fun j hj => absurd hj (Nat.not_lt_zero j), Below.refl _ _⟩
    case round =>
      obtain ⟨k, hk, rfl, hnh, hbl⟩ := hrel
      have NH := Lib.hid hnh; have WR := Lib.hid hbl; have WK := Lib.hid (b_next W5.out hbl); have PXR := Lib.hid (p2_keep hbl PX.out); clear hnh hbl
      by_cases hlt : k < 4096
      · have hl : (k : Int) < 4096 := by omega
        have hl2 : decide ((k : Int) < 4096) = true := decide_eq_true hl
        have N1 := Lib.hid (norm_w (wrap64 (g + k)) wr)
        have N2 := Lib.hid (norm_w (wrap64 (g - k)) wr)
        rw [wrap_mod] at N1 N2
        by_cases hp : k % 2 = 1
        · obtain ⟨H, hH⟩ : ∃ H, H = (g - k) % 4096 := ⟨_, rfl⟩
          have HK : Hid (Hk g k = H) := Lib.hid (by unfold Hk; rw [if_pos hp, hH])
          rw [← hH] at N2
          generalize (g + (k : Int)) % 4096 = H' at *
          have t1 : ((k : Int).tmod 2) = 1 := by rw [Int.tmod_eq_emod_of_nonneg (by omega)]; omega
          have t2 : ((k : Int) % 2) = 1 := by omega
          go_wp2_with fail
          (with_reducible refine N1.out.mono ?_); rintro e v0 ⟨rfl, rfl⟩
          go_wp2_with fail
          (with_reducible refine N2.out.mono ?_); rintro e v0 ⟨rfl, rfl⟩
          clear t1 t2
          have bH : 0 ≤ H ∧ H < 4096 := by omega
          clear hH
          have US := Lib.hid (UN.out H); have UT := Lib.hid (UN.out (H + 1))
          have m1 := mul_bd2 (sn_bd (H + 1024)) HX.out; have m2 := mul_bd2 (sn_bd H) HY.out; have m3 := mul_bd2 (sn_bd (H + 1)) HY.out; have m4 := mul_bd2 (sn_bd (H + 1 + 1024)) HX.out; have m5 := mul_bd2 (sn_bd H) HX.out; have m6 := mul_bd2 (sn_bd (H + 1024)) HY.out
          have X1 : Hid (∀ w, Calls Tryz.prog 112 #[.agg #[.int .i64 (sn H), .int .i64 (sn (H + 1024))], .agg #[.int .i64 x, .int .i64 y]] w fun e w' => e = .returned (.int .i64 (F x y H)) ∧ Below w.heap.size w w') := Lib.hid fun w => cross_w _ _ _ _ _ _ w rfl rfl (by omega) (by omega)
          have X2 : Hid (∀ w, Calls Tryz.prog 112 #[.agg #[.int .i64 x, .int .i64 y], .agg #[.int .i64 (sn (H + 1)), .int .i64 (sn (H + 1 + 1024))]] w fun e w' => e = .returned (.int .i64 (-F x y (H + 1))) ∧ Below w.heap.size w w') := Lib.hid fun w => by
            have c := cross_w x y (sn (H + 1)) (sn (H + 1 + 1024)) _ _ w rfl rfl (by rw [Int.mul_comm]; omega) (by rw [Int.mul_comm]; omega)
            rw [show y * sn (H + 1) - x * sn (H + 1 + 1024) = -F x y (H + 1) from by unfold F; grind] at c
            exact c
          have SC : Hid (Sec x y H → 0 < sn H * x + sn (H + 1024) * y) := Lib.hid fun s => sec_dot s
          have SI : Hid (Sec x y H ↔ (0 ≤ F x y H ∧ 0 < -F x y (H + 1))) := Lib.hid (by unfold Sec; omega)
          have RR : Hid (Sec x y H → r = if F x y H ≤ -F x y (H + 1) then H else (H + 1) % 4096) := Lib.hid fun s => by
            have e := sec_one s SE.out
            have e2 : H = h0 := by omega
            rw [e2]; exact HRR.out
          have NX : Hid (¬ Sec x y H → ∀ j, j < k + 1 → ¬ Hk g j = h0) := Lib.hid fun s j hj => by
            rcases Nat.lt_or_ge j k with hl | hl
            · exact NH.out j hl
            · rw [show j = k from by omega, HK.out]
              intro e; rw [e] at s; exact s SE.out
          have F1 : Hid (-100000000000 ≤ F x y H ∧ F x y H ≤ 100000000000) := Lib.hid (by unfold F; omega)
          have F2 : Hid (-100000000000 ≤ -F x y (H + 1) ∧ -F x y (H + 1) ≤ 100000000000) := Lib.hid (by unfold F; omega)
          generalize F x y H = A at *
          generalize -F x y (H + 1) = B at *
          obtain ⟨ux, hux⟩ : ∃ ux, sn H = ux := ⟨_, rfl⟩
          obtain ⟨uy, huy⟩ : ∃ uy, sn (H + 1024) = uy := ⟨_, rfl⟩
          obtain ⟨vx, hvx⟩ : ∃ ux, sn (H + 1) = ux := ⟨_, rfl⟩
          obtain ⟨vy, hvy⟩ : ∃ ux, sn (H + 1 + 1024) = ux := ⟨_, rfl⟩
          have UX := Lib.hid (sn_bd H); have UY := Lib.hid (sn_bd (H + 1024)); have VX := Lib.hid (sn_bd (H + 1)); have VY := Lib.hid (sn_bd (H + 1 + 1024))
          rw [hux, huy] at US X1 SC
          rw [hvx, hvy] at UT X2
          rw [hux] at m5 UX
          rw [huy] at m6 UY
          rw [hvx] at VX
          rw [hvy] at VY
          obtain ⟨P, hP⟩ : ∃ P, ux * x = P := ⟨_, rfl⟩
          obtain ⟨Q, hQ⟩ : ∃ Q, uy * y = Q := ⟨_, rfl⟩
          rw [hP] at m5 SC
          rw [hQ] at m6 SC
          have hPQ := Lib.hid (And.intro hP hQ)
          clear m1 m2 m3 m4 hux huy hvx hvy hP hQ
          have fA := F1.out; have fB := F2.out
          go_wp2_with fail
          (with_reducible refine (US.out _ WK.out).mono ?_); rintro e v1 ⟨rfl, hb⟩
          have WL := Lib.hid (b_next WK.out hb); have WM := Lib.hid (b_next WR.out hb); have PV1 := Lib.hid (p2_keep hb PXR.out)
          clear hb
          go_wp2_with fail
          (with_reducible refine (UT.out _ WL.out).mono ?_); rintro e v2 ⟨rfl, hb⟩
          have WL2 := Lib.hid (b_next WL.out hb); have WM2 := Lib.hid (b_next WM.out hb); have PV2 := Lib.hid (p2_keep hb PV1.out)
          clear hb
          have UXr := UX.out; have UYr := UY.out; have VXr := VX.out; have VYr := VY.out
          go_wp2_with fail
          skip
          obtain ⟨w6, hw6⟩ : ∃ w6, w6 = (v2.alloc (.cells #[.int .i64 ux, .int .i64 uy] 36)).alloc (.cells #[.int .i64 vx, .int .i64 vy] 36) := ⟨_, rfl⟩
          have PU : Hid (P2 w6 v2.heap.size ux uy) := Lib.hid (by rw [hw6]; exact p2_keep (b_alloc (Below.refl _ _) _) (p2_new v2 _ ux uy))
          have PX : Hid (P2 w6 (v2.heap.size + 1) vx vy) := Lib.hid (by
            have h := p2_new (v2.alloc (.cells #[.int .i64 ux, .int .i64 uy] 36)) 36 vx vy
            rw [World.size_alloc] at h; rw [hw6]; exact h)
          have PV : Hid (P2 w6 w.heap.size x y) := Lib.hid (by rw [hw6]; exact p2_keep (b_alloc (b_alloc (Below.refl _ _) _) _) PV2.out)
          have WN : Hid (Below w5.heap.size w5 w6) := Lib.hid (by rw [hw6]; exact b_alloc (b_alloc WM2.out _) _)
          rw [← hw6]
          clear hw6 UXr UYr VXr VYr
          refine d_region (by kernel_rfl) (by kernel_rfl) ?_
          repeat
            first
              | (refine d_plain (by with_reducible rfl) ?_; apply Exists.intro; refine ⟨fun wq hc hq => ?_, ?_⟩)
              | (refine d_on (by with_reducible rfl) (by rfl) (by with_reducible rfl) ?_; apply Exists.intro; refine ⟨fun wq hc hq => ?_, ?_⟩)
              | (refine d_off (by with_reducible rfl) (by rfl) (by rfl) ?_)
              | (refine d_void (by with_reducible rfl) (by rfl) ?_)
            try any_goals
              (obtain ⟨q0, q1⟩ := p2_keep (cls hq) PU.out; obtain ⟨q2, q3⟩ := p2_keep (cls hq) PV.out; obtain ⟨q4, q5⟩ := p2_keep (cls hq) PX.out; clear hc
               go_simp
               first
                 | rfl
                 | (go_at_call 112; with_reducible exact call_below hq (X1.out _))
                 | (go_at_call 112; with_reducible exact call_below hq (X2.out _)))
            simp only [Act.put, List.setIfInBounds_toArray, List.set_cons_zero, List.set_cons_succ]
          refine d_nil ?_
          intro w7 hb7
          have WO := Lib.hid (b_next WN.out hb7); have WZ := Lib.hid (b_next WN.out hb7)
          have WP := Lib.hid (b_next W5.out WO.out)
          have PU2 := Lib.hid (p2_keep hb7 PU.out); have PV3 := Lib.hid (p2_keep hb7 PV.out)
          clear hb7
          by_cases hs : 0 ≤ A ∧ 0 < B
          · obtain ⟨s1, s2⟩ := hs
            have hsec := SI.out.2 ⟨s1, s2⟩
            have s3 := SC.out hsec
            have hr := RR.out hsec
            have q1 := decide_eq_true s1; have q2 := decide_eq_true s2; have q3 := decide_eq_true s3
            obtain ⟨u0, u1⟩ := PU2.out
            obtain ⟨y0, y1⟩ := PV3.out
            have e3 := hPQ.out.1; have e4 := hPQ.out.2
            by_cases hab : A ≤ B
            · rw [if_pos hab] at hr
              have q4 := decide_eq_true hab
              have HR2 := Lib.hid hr
              clear hr hsec
              go_wp2_with fail
              go_ret2
              exact ⟨Kit.ret2 HR2.out.symm rfl, WP.out⟩
            · rw [if_neg hab] at hr
              have q4 := decide_eq_false hab
              have HR2 := Lib.hid hr
              clear hr hsec
              go_wp2_with fail
              (with_reducible refine (norm_w (H + 1) _).mono ?_); rintro e v7 ⟨rfl, rfl⟩
              go_wp2_with fail
              go_ret2
              exact ⟨Kit.ret2 HR2.out.symm rfl, WP.out⟩
          · have NX2 := Lib.hid (NX.out (fun s => hs (SI.out.1 s)))
            by_cases s1 : 0 ≤ A
            · have s2 : ¬ 0 < B := fun h => hs ⟨s1, h⟩
              have q1 := decide_eq_true s1; have q2 := decide_eq_false s2
              clear hs
              go_wp2_with fail
              exact ⟨⟨k + 1, by omega, by go_num, NX2.out, WZ.out⟩, by simp [intOf]; omega⟩
            · have q1 := decide_eq_false s1
              clear hs
              go_wp2_with fail
              exact ⟨⟨k + 1, by omega, by go_num, NX2.out, WZ.out⟩, by simp [intOf]; omega⟩
        · obtain ⟨H, hH⟩ : ∃ H, H = (g + k) % 4096 := ⟨_, rfl⟩
          have HK : Hid (Hk g k = H) := Lib.hid (by unfold Hk; rw [if_neg hp, hH])
          rw [← hH] at N1
          have t1 : ((k : Int).tmod 2) = 0 := by rw [Int.tmod_eq_emod_of_nonneg (by omega)]; omega
          have t2 : ((k : Int) % 2) = 0 := by omega
          go_wp2_with fail
          (with_reducible refine N1.out.mono ?_); rintro e v0 ⟨rfl, rfl⟩
          clear t1 t2
          have bH : 0 ≤ H ∧ H < 4096 := by omega
          clear hH
          have US := Lib.hid (UN.out H); have UT := Lib.hid (UN.out (H + 1))
          have m1 := mul_bd2 (sn_bd (H + 1024)) HX.out; have m2 := mul_bd2 (sn_bd H) HY.out; have m3 := mul_bd2 (sn_bd (H + 1)) HY.out; have m4 := mul_bd2 (sn_bd (H + 1 + 1024)) HX.out; have m5 := mul_bd2 (sn_bd H) HX.out; have m6 := mul_bd2 (sn_bd (H + 1024)) HY.out
          have X1 : Hid (∀ w, Calls Tryz.prog 112 #[.agg #[.int .i64 (sn H), .int .i64 (sn (H + 1024))], .agg #[.int .i64 x, .int .i64 y]] w fun e w' => e = .returned (.int .i64 (F x y H)) ∧ Below w.heap.size w w') := Lib.hid fun w => cross_w _ _ _ _ _ _ w rfl rfl (by omega) (by omega)
          have X2 : Hid (∀ w, Calls Tryz.prog 112 #[.agg #[.int .i64 x, .int .i64 y], .agg #[.int .i64 (sn (H + 1)), .int .i64 (sn (H + 1 + 1024))]] w fun e w' => e = .returned (.int .i64 (-F x y (H + 1))) ∧ Below w.heap.size w w') := Lib.hid fun w => by
            have c := cross_w x y (sn (H + 1)) (sn (H + 1 + 1024)) _ _ w rfl rfl (by rw [Int.mul_comm]; omega) (by rw [Int.mul_comm]; omega)
            rw [show y * sn (H + 1) - x * sn (H + 1 + 1024) = -F x y (H + 1) from by unfold F; grind] at c
            exact c
          have SC : Hid (Sec x y H → 0 < sn H * x + sn (H + 1024) * y) := Lib.hid fun s => sec_dot s
          have SI : Hid (Sec x y H ↔ (0 ≤ F x y H ∧ 0 < -F x y (H + 1))) := Lib.hid (by unfold Sec; omega)
          have RR : Hid (Sec x y H → r = if F x y H ≤ -F x y (H + 1) then H else (H + 1) % 4096) := Lib.hid fun s => by
            have e := sec_one s SE.out
            have e2 : H = h0 := by omega
            rw [e2]; exact HRR.out
          have NX : Hid (¬ Sec x y H → ∀ j, j < k + 1 → ¬ Hk g j = h0) := Lib.hid fun s j hj => by
            rcases Nat.lt_or_ge j k with hl | hl
            · exact NH.out j hl
            · rw [show j = k from by omega, HK.out]
              intro e; rw [e] at s; exact s SE.out
          have F1 : Hid (-100000000000 ≤ F x y H ∧ F x y H ≤ 100000000000) := Lib.hid (by unfold F; omega)
          have F2 : Hid (-100000000000 ≤ -F x y (H + 1) ∧ -F x y (H + 1) ≤ 100000000000) := Lib.hid (by unfold F; omega)
          generalize F x y H = A at *
          generalize -F x y (H + 1) = B at *
          obtain ⟨ux, hux⟩ : ∃ ux, sn H = ux := ⟨_, rfl⟩
          obtain ⟨uy, huy⟩ : ∃ uy, sn (H + 1024) = uy := ⟨_, rfl⟩
          obtain ⟨vx, hvx⟩ : ∃ ux, sn (H + 1) = ux := ⟨_, rfl⟩
          obtain ⟨vy, hvy⟩ : ∃ ux, sn (H + 1 + 1024) = ux := ⟨_, rfl⟩
          have UX := Lib.hid (sn_bd H); have UY := Lib.hid (sn_bd (H + 1024)); have VX := Lib.hid (sn_bd (H + 1)); have VY := Lib.hid (sn_bd (H + 1 + 1024))
          rw [hux, huy] at US X1 SC
          rw [hvx, hvy] at UT X2
          rw [hux] at m5 UX
          rw [huy] at m6 UY
          rw [hvx] at VX
          rw [hvy] at VY
          obtain ⟨P, hP⟩ : ∃ P, ux * x = P := ⟨_, rfl⟩
          obtain ⟨Q, hQ⟩ : ∃ Q, uy * y = Q := ⟨_, rfl⟩
          rw [hP] at m5 SC
          rw [hQ] at m6 SC
          have hPQ := Lib.hid (And.intro hP hQ)
          clear m1 m2 m3 m4 hux huy hvx hvy hP hQ
          have fA := F1.out; have fB := F2.out
          go_wp2_with fail
          (with_reducible refine (US.out _ WK.out).mono ?_); rintro e v1 ⟨rfl, hb⟩
          have WL := Lib.hid (b_next WK.out hb); have WM := Lib.hid (b_next WR.out hb); have PV1 := Lib.hid (p2_keep hb PXR.out)
          clear hb
          go_wp2_with fail
          (with_reducible refine (UT.out _ WL.out).mono ?_); rintro e v2 ⟨rfl, hb⟩
          have WL2 := Lib.hid (b_next WL.out hb); have WM2 := Lib.hid (b_next WM.out hb); have PV2 := Lib.hid (p2_keep hb PV1.out)
          clear hb
          have UXr := UX.out; have UYr := UY.out; have VXr := VX.out; have VYr := VY.out
          go_wp2_with fail
          skip
          obtain ⟨w6, hw6⟩ : ∃ w6, w6 = (v2.alloc (.cells #[.int .i64 ux, .int .i64 uy] 36)).alloc (.cells #[.int .i64 vx, .int .i64 vy] 36) := ⟨_, rfl⟩
          have PU : Hid (P2 w6 v2.heap.size ux uy) := Lib.hid (by rw [hw6]; exact p2_keep (b_alloc (Below.refl _ _) _) (p2_new v2 _ ux uy))
          have PX : Hid (P2 w6 (v2.heap.size + 1) vx vy) := Lib.hid (by
            have h := p2_new (v2.alloc (.cells #[.int .i64 ux, .int .i64 uy] 36)) 36 vx vy
            rw [World.size_alloc] at h; rw [hw6]; exact h)
          have PV : Hid (P2 w6 w.heap.size x y) := Lib.hid (by rw [hw6]; exact p2_keep (b_alloc (b_alloc (Below.refl _ _) _) _) PV2.out)
          have WN : Hid (Below w5.heap.size w5 w6) := Lib.hid (by rw [hw6]; exact b_alloc (b_alloc WM2.out _) _)
          rw [← hw6]
          clear hw6 UXr UYr VXr VYr
          refine d_region (by kernel_rfl) (by kernel_rfl) ?_
          repeat
            first
              | (refine d_plain (by with_reducible rfl) ?_; apply Exists.intro; refine ⟨fun wq hc hq => ?_, ?_⟩)
              | (refine d_on (by with_reducible rfl) (by rfl) (by with_reducible rfl) ?_; apply Exists.intro; refine ⟨fun wq hc hq => ?_, ?_⟩)
              | (refine d_off (by with_reducible rfl) (by rfl) (by rfl) ?_)
              | (refine d_void (by with_reducible rfl) (by rfl) ?_)
            try any_goals
              (obtain ⟨q0, q1⟩ := p2_keep (cls hq) PU.out; obtain ⟨q2, q3⟩ := p2_keep (cls hq) PV.out; obtain ⟨q4, q5⟩ := p2_keep (cls hq) PX.out; clear hc
               go_simp
               first
                 | rfl
                 | (go_at_call 112; with_reducible exact call_below hq (X1.out _))
                 | (go_at_call 112; with_reducible exact call_below hq (X2.out _)))
            simp only [Act.put, List.setIfInBounds_toArray, List.set_cons_zero, List.set_cons_succ]
          refine d_nil ?_
          intro w7 hb7
          have WO := Lib.hid (b_next WN.out hb7); have WZ := Lib.hid (b_next WN.out hb7)
          have WP := Lib.hid (b_next W5.out WO.out)
          have PU2 := Lib.hid (p2_keep hb7 PU.out); have PV3 := Lib.hid (p2_keep hb7 PV.out)
          clear hb7
          by_cases hs : 0 ≤ A ∧ 0 < B
          · obtain ⟨s1, s2⟩ := hs
            have hsec := SI.out.2 ⟨s1, s2⟩
            have s3 := SC.out hsec
            have hr := RR.out hsec
            have q1 := decide_eq_true s1; have q2 := decide_eq_true s2; have q3 := decide_eq_true s3
            obtain ⟨u0, u1⟩ := PU2.out
            obtain ⟨y0, y1⟩ := PV3.out
            have e3 := hPQ.out.1; have e4 := hPQ.out.2
            by_cases hab : A ≤ B
            · rw [if_pos hab] at hr
              have q4 := decide_eq_true hab
              have HR2 := Lib.hid hr
              clear hr hsec
              go_wp2_with fail
              go_ret2
              exact ⟨Kit.ret2 HR2.out.symm rfl, WP.out⟩
            · rw [if_neg hab] at hr
              have q4 := decide_eq_false hab
              have HR2 := Lib.hid hr
              clear hr hsec
              go_wp2_with fail
              (with_reducible refine (norm_w (H + 1) _).mono ?_); rintro e v7 ⟨rfl, rfl⟩
              go_wp2_with fail
              go_ret2
              exact ⟨Kit.ret2 HR2.out.symm rfl, WP.out⟩
          · have NX2 := Lib.hid (NX.out (fun s => hs (SI.out.1 s)))
            by_cases s1 : 0 ≤ A
            · have s2 : ¬ 0 < B := fun h => hs ⟨s1, h⟩
              have q1 := decide_eq_true s1; have q2 := decide_eq_false s2
              clear hs
              go_wp2_with fail
              exact ⟨⟨k + 1, by omega, by go_num, NX2.out, WZ.out⟩, by simp [intOf]; omega⟩
            · have q1 := decide_eq_false s1
              clear hs
              go_wp2_with fail
              exact ⟨⟨k + 1, by omega, by go_num, NX2.out, WZ.out⟩, by simp [intOf]; omega⟩
      · exfalso
        obtain ⟨j, hj, he⟩ := meet g h0 a0 a1
        exact NH.out j (by omega) he
  · have e0 : (x == 0) = false := by simp [hx0]
    clear hx0 hzz hz
    go_wp2_with fail
    rw [← HW.out]
    (with_reducible refine (atan2P_w fx fy w0).mono ?_); rintro e w1 ⟨ra, rfl, da⟩
    obtain ⟨m1, w2, h2, d2⟩ := ar_any (P := Tryz.prog) .mul (by simp) ra 4656722014701092864 w1
    obtain ⟨m2, w3, h3, d3⟩ := ar_any (P := Tryz.prog) .quo (by simp) m1 4614256656552045848 w2
    have D3 := Lib.hid (dr_trans (dr_trans da d2) d3); clear da d2 d3
    go_wp2_with fail
    (with_reducible refine (floor_w m2 w3).mono ?_); rintro e w4 ⟨rb, rfl, db⟩
    obtain ⟨g, w5, h5, gb, d5⟩ := fi_any rb w4
    have W5 := Lib.hid (b_next W0.out (dr_below (dr_trans (dr_trans D3.out db) d5)))
    have PX := Lib.hid (p2_keep (dr_below (dr_trans (dr_trans D3.out db) d5)) PX0.out)
    clear db d5 h2 h3 p0 p1
    go_wp2_with fail
    obtain ⟨h0, a0, a1, sec, hrr⟩ := HR.out
    have SE := Lib.hid sec; have HRR := Lib.hid hrr; clear sec hrr
    have UN : Hid (∀ h, UnC w h (sn h) (sn (h + 1024))) := Lib.hid fun h w1 hb => unit_w h w1 (tabs_keep hb T.out)
    go_loopw [50] (fun s wr => ∃ k : Nat, k ≤ 4096 ∧ s = .int .i64 k ∧ (∀ j, j < k → ¬ Hk g j = h0) ∧ Below w5.heap.size w5 wr) (fun s _ => 4096 - (intOf s).toNat)
    case atStart => exact ⟨0, Nat.zero_le _, rfl, fun j hj => absurd hj (Nat.not_lt_zero j), Below.refl _ _⟩
    case round =>
      obtain ⟨k, hk, rfl, hnh, hbl⟩ := hrel
      have NH := Lib.hid hnh; have WR := Lib.hid hbl; have WK := Lib.hid (b_next W5.out hbl); have PXR := Lib.hid (p2_keep hbl PX.out); clear hnh hbl
      by_cases hlt : k < 4096
      · have hl : (k : Int) < 4096 := by omega
        have hl2 : decide ((k : Int) < 4096) = true := decide_eq_true hl
        have N1 := Lib.hid (norm_w (wrap64 (g + k)) wr)
        have N2 := Lib.hid (norm_w (wrap64 (g - k)) wr)
        rw [wrap_mod] at N1 N2
        by_cases hp : k % 2 = 1
        · obtain ⟨H, hH⟩ : ∃ H, H = (g - k) % 4096 := ⟨_, rfl⟩
          have HK : Hid (Hk g k = H) := Lib.hid (by unfold Hk; rw [if_pos hp, hH])
          rw [← hH] at N2
          generalize (g + (k : Int)) % 4096 = H' at *
          have t1 : ((k : Int).tmod 2) = 1 := by rw [Int.tmod_eq_emod_of_nonneg (by omega)]; omega
          have t2 : ((k : Int) % 2) = 1 := by omega
          go_wp2_with fail
          (with_reducible refine N1.out.mono ?_); rintro e v0 ⟨rfl, rfl⟩
          go_wp2_with fail
          (with_reducible refine N2.out.mono ?_); rintro e v0 ⟨rfl, rfl⟩
          clear t1 t2
          have bH : 0 ≤ H ∧ H < 4096 := by omega
          clear hH
          have US := Lib.hid (UN.out H); have UT := Lib.hid (UN.out (H + 1))
          have m1 := mul_bd2 (sn_bd (H + 1024)) HX.out; have m2 := mul_bd2 (sn_bd H) HY.out; have m3 := mul_bd2 (sn_bd (H + 1)) HY.out; have m4 := mul_bd2 (sn_bd (H + 1 + 1024)) HX.out; have m5 := mul_bd2 (sn_bd H) HX.out; have m6 := mul_bd2 (sn_bd (H + 1024)) HY.out
          have X1 : Hid (∀ w, Calls Tryz.prog 112 #[.agg #[.int .i64 (sn H), .int .i64 (sn (H + 1024))], .agg #[.int .i64 x, .int .i64 y]] w fun e w' => e = .returned (.int .i64 (F x y H)) ∧ Below w.heap.size w w') := Lib.hid fun w => cross_w _ _ _ _ _ _ w rfl rfl (by omega) (by omega)
          have X2 : Hid (∀ w, Calls Tryz.prog 112 #[.agg #[.int .i64 x, .int .i64 y], .agg #[.int .i64 (sn (H + 1)), .int .i64 (sn (H + 1 + 1024))]] w fun e w' => e = .returned (.int .i64 (-F x y (H + 1))) ∧ Below w.heap.size w w') := Lib.hid fun w => by
            have c := cross_w x y (sn (H + 1)) (sn (H + 1 + 1024)) _ _ w rfl rfl (by rw [Int.mul_comm]; omega) (by rw [Int.mul_comm]; omega)
            rw [show y * sn (H + 1) - x * sn (H + 1 + 1024) = -F x y (H + 1) from by unfold F; grind] at c
            exact c
          have SC : Hid (Sec x y H → 0 < sn H * x + sn (H + 1024) * y) := Lib.hid fun s => sec_dot s
          have SI : Hid (Sec x y H ↔ (0 ≤ F x y H ∧ 0 < -F x y (H + 1))) := Lib.hid (by unfold Sec; omega)
          have RR : Hid (Sec x y H → r = if F x y H ≤ -F x y (H + 1) then H else (H + 1) % 4096) := Lib.hid fun s => by
            have e := sec_one s SE.out
            have e2 : H = h0 := by omega
            rw [e2]; exact HRR.out
          have NX : Hid (¬ Sec x y H → ∀ j, j < k + 1 → ¬ Hk g j = h0) := Lib.hid fun s j hj => by
            rcases Nat.lt_or_ge j k with hl | hl
            · exact NH.out j hl
            · rw [show j = k from by omega, HK.out]
              intro e; rw [e] at s; exact s SE.out
          have F1 : Hid (-100000000000 ≤ F x y H ∧ F x y H ≤ 100000000000) := Lib.hid (by unfold F; omega)
          have F2 : Hid (-100000000000 ≤ -F x y (H + 1) ∧ -F x y (H + 1) ≤ 100000000000) := Lib.hid (by unfold F; omega)
          generalize F x y H = A at *
          generalize -F x y (H + 1) = B at *
          obtain ⟨ux, hux⟩ : ∃ ux, sn H = ux := ⟨_, rfl⟩
          obtain ⟨uy, huy⟩ : ∃ uy, sn (H + 1024) = uy := ⟨_, rfl⟩
          obtain ⟨vx, hvx⟩ : ∃ ux, sn (H + 1) = ux := ⟨_, rfl⟩
          obtain ⟨vy, hvy⟩ : ∃ ux, sn (H + 1 + 1024) = ux := ⟨_, rfl⟩
          have UX := Lib.hid (sn_bd H); have UY := Lib.hid (sn_bd (H + 1024)); have VX := Lib.hid (sn_bd (H + 1)); have VY := Lib.hid (sn_bd (H + 1 + 1024))
          rw [hux, huy] at US X1 SC
          rw [hvx, hvy] at UT X2
          rw [hux] at m5 UX
          rw [huy] at m6 UY
          rw [hvx] at VX
          rw [hvy] at VY
          obtain ⟨P, hP⟩ : ∃ P, ux * x = P := ⟨_, rfl⟩
          obtain ⟨Q, hQ⟩ : ∃ Q, uy * y = Q := ⟨_, rfl⟩
          rw [hP] at m5 SC
          rw [hQ] at m6 SC
          have hPQ := Lib.hid (And.intro hP hQ)
          clear m1 m2 m3 m4 hux huy hvx hvy hP hQ
          have fA := F1.out; have fB := F2.out
          go_wp2_with fail
          (with_reducible refine (US.out _ WK.out).mono ?_); rintro e v1 ⟨rfl, hb⟩
          have WL := Lib.hid (b_next WK.out hb); have WM := Lib.hid (b_next WR.out hb); have PV1 := Lib.hid (p2_keep hb PXR.out)
          clear hb
          go_wp2_with fail
          (with_reducible refine (UT.out _ WL.out).mono ?_); rintro e v2 ⟨rfl, hb⟩
          have WL2 := Lib.hid (b_next WL.out hb); have WM2 := Lib.hid (b_next WM.out hb); have PV2 := Lib.hid (p2_keep hb PV1.out)
          clear hb
          have UXr := UX.out; have UYr := UY.out; have VXr := VX.out; have VYr := VY.out
          go_wp2_with fail
          skip
          obtain ⟨w6, hw6⟩ : ∃ w6, w6 = (v2.alloc (.cells #[.int .i64 ux, .int .i64 uy] 36)).alloc (.cells #[.int .i64 vx, .int .i64 vy] 36) := ⟨_, rfl⟩
          have PU : Hid (P2 w6 v2.heap.size ux uy) := Lib.hid (by rw [hw6]; exact p2_keep (b_alloc (Below.refl _ _) _) (p2_new v2 _ ux uy))
          have PX : Hid (P2 w6 (v2.heap.size + 1) vx vy) := Lib.hid (by
            have h := p2_new (v2.alloc (.cells #[.int .i64 ux, .int .i64 uy] 36)) 36 vx vy
            rw [World.size_alloc] at h; rw [hw6]; exact h)
          have PV : Hid (P2 w6 w.heap.size x y) := Lib.hid (by rw [hw6]; exact p2_keep (b_alloc (b_alloc (Below.refl _ _) _) _) PV2.out)
          have WN : Hid (Below w5.heap.size w5 w6) := Lib.hid (by rw [hw6]; exact b_alloc (b_alloc WM2.out _) _)
          rw [← hw6]
          clear hw6 UXr UYr VXr VYr
          refine d_region (by kernel_rfl) (by kernel_rfl) ?_
          repeat
            first
              | (refine d_plain (by with_reducible rfl) ?_; apply Exists.intro; refine ⟨fun wq hc hq => ?_, ?_⟩)
              | (refine d_on (by with_reducible rfl) (by rfl) (by with_reducible rfl) ?_; apply Exists.intro; refine ⟨fun wq hc hq => ?_, ?_⟩)
              | (refine d_off (by with_reducible rfl) (by rfl) (by rfl) ?_)
              | (refine d_void (by with_reducible rfl) (by rfl) ?_)
            try any_goals
              (obtain ⟨q0, q1⟩ := p2_keep (cls hq) PU.out; obtain ⟨q2, q3⟩ := p2_keep (cls hq) PV.out; obtain ⟨q4, q5⟩ := p2_keep (cls hq) PX.out; clear hc
               go_simp
               first
                 | rfl
                 | (go_at_call 112; with_reducible exact call_below hq (X1.out _))
                 | (go_at_call 112; with_reducible exact call_below hq (X2.out _)))
            simp only [Act.put, List.setIfInBounds_toArray, List.set_cons_zero, List.set_cons_succ]
          refine d_nil ?_
          intro w7 hb7
          have WO := Lib.hid (b_next WN.out hb7); have WZ := Lib.hid (b_next WN.out hb7)
          have WP := Lib.hid (b_next W5.out WO.out)
          have PU2 := Lib.hid (p2_keep hb7 PU.out); have PV3 := Lib.hid (p2_keep hb7 PV.out)
          clear hb7
          by_cases hs : 0 ≤ A ∧ 0 < B
          · obtain ⟨s1, s2⟩ := hs
            have hsec := SI.out.2 ⟨s1, s2⟩
            have s3 := SC.out hsec
            have hr := RR.out hsec
            have q1 := decide_eq_true s1; have q2 := decide_eq_true s2; have q3 := decide_eq_true s3
            obtain ⟨u0, u1⟩ := PU2.out
            obtain ⟨y0, y1⟩ := PV3.out
            have e3 := hPQ.out.1; have e4 := hPQ.out.2
            by_cases hab : A ≤ B
            · rw [if_pos hab] at hr
              have q4 := decide_eq_true hab
              have HR2 := Lib.hid hr
              clear hr hsec
              go_wp2_with fail
              go_ret2
              exact ⟨Kit.ret2 HR2.out.symm rfl, WP.out⟩
            · rw [if_neg hab] at hr
              have q4 := decide_eq_false hab
              have HR2 := Lib.hid hr
              clear hr hsec
              go_wp2_with fail
              (with_reducible refine (norm_w (H + 1) _).mono ?_); rintro e v7 ⟨rfl, rfl⟩
              go_wp2_with fail
              go_ret2
              exact ⟨Kit.ret2 HR2.out.symm rfl, WP.out⟩
          · have NX2 := Lib.hid (NX.out (fun s => hs (SI.out.1 s)))
            by_cases s1 : 0 ≤ A
            · have s2 : ¬ 0 < B := fun h => hs ⟨s1, h⟩
              have q1 := decide_eq_true s1; have q2 := decide_eq_false s2
              clear hs
              go_wp2_with fail
              exact ⟨⟨k + 1, by omega, by go_num, NX2.out, WZ.out⟩, by simp [intOf]; omega⟩
            · have q1 := decide_eq_false s1
              clear hs
              go_wp2_with fail
              exact ⟨⟨k + 1, by omega, by go_num, NX2.out, WZ.out⟩, by simp [intOf]; omega⟩
        · obtain ⟨H, hH⟩ : ∃ H, H = (g + k) % 4096 := ⟨_, rfl⟩
          have HK : Hid (Hk g k = H) := Lib.hid (by unfold Hk; rw [if_neg hp, hH])
          rw [← hH] at N1
          have t1 : ((k : Int).tmod 2) = 0 := by rw [Int.tmod_eq_emod_of_nonneg (by omega)]; omega
          have t2 : ((k : Int) % 2) = 0 := by omega
          go_wp2_with fail
          (with_reducible refine N1.out.mono ?_); rintro e v0 ⟨rfl, rfl⟩
          clear t1 t2
          have bH : 0 ≤ H ∧ H < 4096 := by omega
          clear hH
          have US := Lib.hid (UN.out H); have UT := Lib.hid (UN.out (H + 1))
          have m1 := mul_bd2 (sn_bd (H + 1024)) HX.out; have m2 := mul_bd2 (sn_bd H) HY.out; have m3 := mul_bd2 (sn_bd (H + 1)) HY.out; have m4 := mul_bd2 (sn_bd (H + 1 + 1024)) HX.out; have m5 := mul_bd2 (sn_bd H) HX.out; have m6 := mul_bd2 (sn_bd (H + 1024)) HY.out
          have X1 : Hid (∀ w, Calls Tryz.prog 112 #[.agg #[.int .i64 (sn H), .int .i64 (sn (H + 1024))], .agg #[.int .i64 x, .int .i64 y]] w fun e w' => e = .returned (.int .i64 (F x y H)) ∧ Below w.heap.size w w') := Lib.hid fun w => cross_w _ _ _ _ _ _ w rfl rfl (by omega) (by omega)
          have X2 : Hid (∀ w, Calls Tryz.prog 112 #[.agg #[.int .i64 x, .int .i64 y], .agg #[.int .i64 (sn (H + 1)), .int .i64 (sn (H + 1 + 1024))]] w fun e w' => e = .returned (.int .i64 (-F x y (H + 1))) ∧ Below w.heap.size w w') := Lib.hid fun w => by
            have c := cross_w x y (sn (H + 1)) (sn (H + 1 + 1024)) _ _ w rfl rfl (by rw [Int.mul_comm]; omega) (by rw [Int.mul_comm]; omega)
            rw [show y * sn (H + 1) - x * sn (H + 1 + 1024) = -F x y (H + 1) from by unfold F; grind] at c
            exact c
          have SC : Hid (Sec x y H → 0 < sn H * x + sn (H + 1024) * y) := Lib.hid fun s => sec_dot s
          have SI : Hid (Sec x y H ↔ (0 ≤ F x y H ∧ 0 < -F x y (H + 1))) := Lib.hid (by unfold Sec; omega)
          have RR : Hid (Sec x y H → r = if F x y H ≤ -F x y (H + 1) then H else (H + 1) % 4096) := Lib.hid fun s => by
            have e := sec_one s SE.out
            have e2 : H = h0 := by omega
            rw [e2]; exact HRR.out
          have NX : Hid (¬ Sec x y H → ∀ j, j < k + 1 → ¬ Hk g j = h0) := Lib.hid fun s j hj => by
            rcases Nat.lt_or_ge j k with hl | hl
            · exact NH.out j hl
            · rw [show j = k from by omega, HK.out]
              intro e; rw [e] at s; exact s SE.out
          have F1 : Hid (-100000000000 ≤ F x y H ∧ F x y H ≤ 100000000000) := Lib.hid (by unfold F; omega)
          have F2 : Hid (-100000000000 ≤ -F x y (H + 1) ∧ -F x y (H + 1) ≤ 100000000000) := Lib.hid (by unfold F; omega)
          generalize F x y H = A at *
          generalize -F x y (H + 1) = B at *
          obtain ⟨ux, hux⟩ : ∃ ux, sn H = ux := ⟨_, rfl⟩
          obtain ⟨uy, huy⟩ : ∃ uy, sn (H + 1024) = uy := ⟨_, rfl⟩
          obtain ⟨vx, hvx⟩ : ∃ ux, sn (H + 1) = ux := ⟨_, rfl⟩
          obtain ⟨vy, hvy⟩ : ∃ ux, sn (H + 1 + 1024) = ux := ⟨_, rfl⟩
          have UX := Lib.hid (sn_bd H); have UY := Lib.hid (sn_bd (H + 1024)); have VX := Lib.hid (sn_bd (H + 1)); have VY := Lib.hid (sn_bd (H + 1 + 1024))
          rw [hux, huy] at US X1 SC
          rw [hvx, hvy] at UT X2
          rw [hux] at m5 UX
          rw [huy] at m6 UY
          rw [hvx] at VX
          rw [hvy] at VY
          obtain ⟨P, hP⟩ : ∃ P, ux * x = P := ⟨_, rfl⟩
          obtain ⟨Q, hQ⟩ : ∃ Q, uy * y = Q := ⟨_, rfl⟩
          rw [hP] at m5 SC
          rw [hQ] at m6 SC
          have hPQ := Lib.hid (And.intro hP hQ)
          clear m1 m2 m3 m4 hux huy hvx hvy hP hQ
          have fA := F1.out; have fB := F2.out
          go_wp2_with fail
          (with_reducible refine (US.out _ WK.out).mono ?_); rintro e v1 ⟨rfl, hb⟩
          have WL := Lib.hid (b_next WK.out hb); have WM := Lib.hid (b_next WR.out hb); have PV1 := Lib.hid (p2_keep hb PXR.out)
          clear hb
          go_wp2_with fail
          (with_reducible refine (UT.out _ WL.out).mono ?_); rintro e v2 ⟨rfl, hb⟩
          have WL2 := Lib.hid (b_next WL.out hb); have WM2 := Lib.hid (b_next WM.out hb); have PV2 := Lib.hid (p2_keep hb PV1.out)
          clear hb
          have UXr := UX.out; have UYr := UY.out; have VXr := VX.out; have VYr := VY.out
          go_wp2_with fail
          skip
          obtain ⟨w6, hw6⟩ : ∃ w6, w6 = (v2.alloc (.cells #[.int .i64 ux, .int .i64 uy] 36)).alloc (.cells #[.int .i64 vx, .int .i64 vy] 36) := ⟨_, rfl⟩
          have PU : Hid (P2 w6 v2.heap.size ux uy) := Lib.hid (by rw [hw6]; exact p2_keep (b_alloc (Below.refl _ _) _) (p2_new v2 _ ux uy))
          have PX : Hid (P2 w6 (v2.heap.size + 1) vx vy) := Lib.hid (by
            have h := p2_new (v2.alloc (.cells #[.int .i64 ux, .int .i64 uy] 36)) 36 vx vy
            rw [World.size_alloc] at h; rw [hw6]; exact h)
          have PV : Hid (P2 w6 w.heap.size x y) := Lib.hid (by rw [hw6]; exact p2_keep (b_alloc (b_alloc (Below.refl _ _) _) _) PV2.out)
          have WN : Hid (Below w5.heap.size w5 w6) := Lib.hid (by rw [hw6]; exact b_alloc (b_alloc WM2.out _) _)
          rw [← hw6]
          clear hw6 UXr UYr VXr VYr
          refine d_region (by kernel_rfl) (by kernel_rfl) ?_
          repeat
            first
              | (refine d_plain (by with_reducible rfl) ?_; apply Exists.intro; refine ⟨fun wq hc hq => ?_, ?_⟩)
              | (refine d_on (by with_reducible rfl) (by rfl) (by with_reducible rfl) ?_; apply Exists.intro; refine ⟨fun wq hc hq => ?_, ?_⟩)
              | (refine d_off (by with_reducible rfl) (by rfl) (by rfl) ?_)
              | (refine d_void (by with_reducible rfl) (by rfl) ?_)
            try any_goals
              (obtain ⟨q0, q1⟩ := p2_keep (cls hq) PU.out; obtain ⟨q2, q3⟩ := p2_keep (cls hq) PV.out; obtain ⟨q4, q5⟩ := p2_keep (cls hq) PX.out; clear hc
               go_simp
               first
                 | rfl
                 | (go_at_call 112; with_reducible exact call_below hq (X1.out _))
                 | (go_at_call 112; with_reducible exact call_below hq (X2.out _)))
            simp only [Act.put, List.setIfInBounds_toArray, List.set_cons_zero, List.set_cons_succ]
          refine d_nil ?_
          intro w7 hb7
          have WO := Lib.hid (b_next WN.out hb7); have WZ := Lib.hid (b_next WN.out hb7)
          have WP := Lib.hid (b_next W5.out WO.out)
          have PU2 := Lib.hid (p2_keep hb7 PU.out); have PV3 := Lib.hid (p2_keep hb7 PV.out)
          clear hb7
          by_cases hs : 0 ≤ A ∧ 0 < B
          · obtain ⟨s1, s2⟩ := hs
            have hsec := SI.out.2 ⟨s1, s2⟩
            have s3 := SC.out hsec
            have hr := RR.out hsec
            have q1 := decide_eq_true s1; have q2 := decide_eq_true s2; have q3 := decide_eq_true s3
            obtain ⟨u0, u1⟩ := PU2.out
            obtain ⟨y0, y1⟩ := PV3.out
            have e3 := hPQ.out.1; have e4 := hPQ.out.2
            by_cases hab : A ≤ B
            · rw [if_pos hab] at hr
              have q4 := decide_eq_true hab
              have HR2 := Lib.hid hr
              clear hr hsec
              go_wp2_with fail
              go_ret2
              exact ⟨Kit.ret2 HR2.out.symm rfl, WP.out⟩
            · rw [if_neg hab] at hr
              have q4 := decide_eq_false hab
              have HR2 := Lib.hid hr
              clear hr hsec
              go_wp2_with fail
              (with_reducible refine (norm_w (H + 1) _).mono ?_); rintro e v7 ⟨rfl, rfl⟩
              go_wp2_with fail
              go_ret2
              exact ⟨Kit.ret2 HR2.out.symm rfl, WP.out⟩
          · have NX2 := Lib.hid (NX.out (fun s => hs (SI.out.1 s)))
            by_cases s1 : 0 ≤ A
            · have s2 : ¬ 0 < B := fun h => hs ⟨s1, h⟩
              have q1 := decide_eq_true s1; have q2 := decide_eq_false s2
              clear hs
              go_wp2_with fail
              exact ⟨⟨k + 1, by omega, by go_num, NX2.out, WZ.out⟩, by simp [intOf]; omega⟩
            · have q1 := decide_eq_false s1
              clear hs
              go_wp2_with fail
              exact ⟨⟨k + 1, by omega, by go_num, NX2.out, WZ.out⟩, by simp [intOf]; omega⟩
      · exfalso
        obtain ⟨j, hj, he⟩ := meet g h0 a0 a1
        exact NH.out j (by omega) he
end Ang
end Go.Proofs.YtmkglhoahdlogaaGreatDoor
