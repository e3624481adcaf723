/- TubeWidens: a widened tube contains the tube, and all of its points. For every input. -/
import Derived.Test.YtampbjbalenckaaInsQ
import Derived.Test.YtampbjbalenckaaTubeD
import Derived.Test.YtampbjbalenckaaTubeW
namespace Go.Proofs.Ytampbjbalenckaa
open Go.RowKit Go.ChangeShapes Go.WideShapes
namespace TubeWidens
open Kit Plane Tube
theorem q1_new (w : World) (t : TypeId) (u : Value) : (w.alloc (.cells #[u] t)).cell? ⟨w.heap.size, 0, none⟩ = some u := by simp
theorem q1_ist {w : World} {b : Nat} {u : Value} (h : w.cell? ⟨b, 0, none⟩ = some u) (hu : IsT w u) : ∀ k, k < 1 → w.cell? ⟨b, k, none⟩ = some ((fun _ => u) k) ∧ IsT w ((fun _ => u) k) := by
  intro k hk
  obtain rfl : k = 0 := by omega
  exact ⟨h, hu⟩
set_option maxRecDepth 100000 in
set_option maxHeartbeats 2000000 in
theorem bad (A : Option Addr) (m c : Nat) (r d t qx qy hh E : Int) (w : World) (I1 : Hid (IsT w (.slice A m c))) (C : Hid (∀ w1, Below w.heap.size w w1 → Calls Try.prog 39 #[.slice A m c, .int .i64 r, .int .i64 d] w1 fun e w' => e = .returned (.tuple #[.slice none 0 0, .int .i64 E]) ∧ Below w1.heap.size w1 w')) (_hE1 : (E == 0) = false) (hE2 : (E != 0) = true) :
    Calls Try.prog 14 #[.slice A m c, .int .i64 r, .int .i64 d, .int .i64 t, .agg #[.int .i64 qx, .int .i64 qy], .int .i64 hh] w fun e w' => e = .returned (.bool true) ∧ Below w.heap.size w w' := by
  go_enter Try.func14, Try.ntmps14
  have HW := Lib.hid (b_alloc (Below.refl w.heap.size w) (.cells #[.int .i64 qx, .int .i64 qy] 26))
  go_wp2_with fail
  (with_reducible refine (tubeWorks _).mono ?_); rintro e w1 ⟨rfl, h⟩
  have W1 := Lib.hid (b_next HW.out h); clear h
  have Q1 := Lib.hid (q1_new w1 45 (.slice A m c))
  have W1' := Lib.hid (b_alloc W1.out (.cells #[.slice A m c] 45))
  go_wp2_with fail
  (with_reducible refine (long_any _ 1 1 _ _ (Nat.le_refl _) (by decide) (Lib.hid (q1_ist Q1.out (isT_keep W1'.out I1.out)))).mono ?_); rintro e w2 ⟨⟨r, rfl⟩, h⟩
  have W2 := Lib.hid (b_next W1'.out h); clear h
  cases r with
  | true =>
    go_wp2_with fail
    go_ret
    exact ⟨retb rfl, W2.out⟩
  | false =>
    go_wp2_with fail
    (with_reducible refine (C.out _ W2.out).mono ?_); rintro e w3 ⟨rfl, h⟩
    have W3 := Lib.hid (b_next W2.out h); clear h
    go_wp2_with fail
    go_ret
    exact ⟨retb rfl, W3.out⟩
set_option maxRecDepth 100000 in
set_option maxHeartbeats 2000000 in
theorem body (A : Option Addr) (m c : Nat) (T X Y H R B : Nat → Int) (r d t qx qy hh : Int) (x y : Bool) (f : Int) (w : World) (I1 : Hid (IsT w (.slice A m c)))
    (C : Hid (∀ w1, Below w.heap.size w w1 → Calls Try.prog 39 #[.slice A m c, .int .i64 r, .int .i64 d] w1 fun e w' => (∃ g cap', e = .returned (.tuple #[.slice (some ⟨g, 0, none⟩) m cap', .int .i64 0]) ∧ TV w' (.slice (some ⟨g, 0, none⟩) m cap') m T X Y H R B) ∧ Below w1.heap.size w1 w'))
    (IN : Hid (∀ w1 v, Below w.heap.size w w1 → TV w1 v m T X Y H R B → Calls Try.prog 37 #[.slice A m c, v] w1 fun e w' => e = .returned (.tuple #[.bool true, .int .i64 0]) ∧ Below w1.heap.size w1 w'))
    (H1 : Hid (∀ w1, Below w.heap.size w w1 → Calls Try.prog 30 #[.slice A m c, .int .i64 t, .agg #[.int .i64 qx, .int .i64 qy], .int .i64 hh] w1 fun e w' => e = .returned (.tuple #[.bool x, .int .i64 f]) ∧ Below w1.heap.size w1 w'))
    (H2 : Hid (∀ w1 v, TV w1 v m T X Y H R B → Calls Try.prog 30 #[v, .int .i64 t, .agg #[.int .i64 qx, .int .i64 qy], .int .i64 hh] w1 fun e w' => e = .returned (.tuple #[.bool y, .int .i64 f]) ∧ Below w1.heap.size w1 w'))
    (hx : x = false ∨ (x = true ∧ y = true)) :
    Calls Try.prog 14 #[.slice A m c, .int .i64 r, .int .i64 d, .int .i64 t, .agg #[.int .i64 qx, .int .i64 qy], .int .i64 hh] w fun e w' => e = .returned (.bool true) ∧ Below w.heap.size w w' := by
  go_enter Try.func14, Try.ntmps14
  have HP := Lib.hid (p2_new w 26 qx qy)
  have HW := Lib.hid (b_alloc (Below.refl w.heap.size w) (.cells #[.int .i64 qx, .int .i64 qy] 26))
  go_wp2_with fail
  (with_reducible refine (tubeWorks _).mono ?_); rintro e w1 ⟨rfl, h⟩
  have W1 := Lib.hid (b_next HW.out h); have P1 := Lib.hid (p2_keep h HP.out); clear h
  have Q1 := Lib.hid (q1_new w1 45 (.slice A m c))
  have W1' := Lib.hid (b_alloc W1.out (.cells #[.slice A m c] 45))
  have P1' := Lib.hid (p2_alloc (.cells #[.slice A m c] 45) P1.out)
  go_wp2_with fail
  (with_reducible refine (long_any _ 1 1 _ _ (Nat.le_refl _) (by decide) (Lib.hid (q1_ist Q1.out (isT_keep W1'.out I1.out)))).mono ?_); rintro e w2 ⟨⟨r, rfl⟩, h⟩
  have W2 := Lib.hid (b_next W1'.out h); have P2' := Lib.hid (p2_keep h P1'.out); clear h
  cases r with
  | true =>
    go_wp2_with fail
    go_ret
    exact ⟨retb rfl, W2.out⟩
  | false =>
    go_wp2_with fail
    (with_reducible refine (C.out _ W2.out).mono ?_); rintro e w3 ⟨⟨g, cap', rfl, hv⟩, h⟩
    have W3 := Lib.hid (b_next W2.out h); have P3 := Lib.hid (p2_keep h P2'.out); have V3 := Lib.hid hv; clear h hv
    go_wp2_with fail
    (with_reducible refine (IN.out _ _ W3.out V3.out).mono ?_); rintro e w4 ⟨rfl, h⟩
    have W4 := Lib.hid (b_next W3.out h); have V4 := Lib.hid (tv_keep h V3.out); obtain ⟨p0, p1⟩ := p2_keep h P3.out; clear h
    go_wp2_with fail
    (with_reducible refine (H1.out _ W4.out).mono ?_); rintro e w5 ⟨rfl, h⟩
    have W5 := Lib.hid (b_next W4.out h); have V5 := Lib.hid (tv_keep h V4.out); replace p0 := keep h p0; replace p1 := keep h p1; clear h
    go_wp2_with fail
    (with_reducible refine (H2.out _ _ V5.out).mono ?_); rintro e w6 ⟨rfl, h⟩
    have W6 := Lib.hid (b_next W5.out h); clear h p0 p1
    rcases hx with rfl | ⟨rfl, rfl⟩
    all_goals
      go_wp2_with fail
      go_ret
      exact ⟨retb (by simp), W6.out⟩
theorem ist_of {w : World} {v : Value} {n : Nat} {T X Y H R B : Nat → Int} (h : TV w v n T X Y H R B) : IsT w v := ⟨n, T, X, Y, H, R, B, h⟩
theorem tu_more (T R : Nat → Int) (i : Nat) (t r : Int) : tu T (fun k => R k + r) i t = tu T R i t + r := by
  unfold tu
  dsimp only
  rw [show R (i + 1) + r - (R i + r) = R (i + 1) - R i from by omega]
  omega
theorem sqr_same (x y : Int) : dup (sqr x y x y) = 0 := by
  unfold sqr
  rw [Int.sub_self, Int.sub_self]
  rfl
theorem ins_more {T X Y H R B : Nat → Int} {n : Nat} {r d : Int} (hr : 0 ≤ r) (hd : 0 ≤ d) : InsP T X Y H R B n T X Y H (fun k => R k + r) (fun k => B k + d) n := by
  refine ⟨Int.le_refl _, Int.le_refl _, fun t _ _ => ?_⟩
  unfold inT inN
  rw [sqr_same, tu_more, tu_more, Int.sub_self]
  simp only [Bool.and_eq_true, decide_eq_true_eq]
  omega
/-- The error is nil or not. -/
theorem two (E : Int) : (E = 0 ∧ (E == 0) = true ∧ (E != 0) = false) ∨ (E ≠ 0 ∧ (E == 0) = false ∧ (E != 0) = true) := by
  by_cases h : E = 0
  · exact Or.inl ⟨h, by simp [h], by simp [h]⟩
  · exact Or.inr ⟨h, by simp [h], by simp [h]⟩
theorem walk (l : Value) (radius : Int) (band : Int) (t : Int) (q_x : Int) (q_y : Int) (height : Int) (W : World) (h_l : Frame.Okc W (.sl [.int, .int, .int, .int, .int, .int]) l) (_h_radius : -9223372036854775808 ≤ radius ∧ radius ≤ 9223372036854775807) (_h_band : -9223372036854775808 ≤ band ∧ band ≤ 9223372036854775807) (_h_t : -9223372036854775808 ≤ t ∧ t ≤ 9223372036854775807) (_h_q_x : -9223372036854775808 ≤ q_x ∧ q_x ≤ 9223372036854775807) (_h_q_y : -9223372036854775808 ≤ q_y ∧ q_y ≤ 9223372036854775807) (_h_height : -9223372036854775808 ≤ height ∧ height ≤ 9223372036854775807) :
    Calls Try.prog 14 #[l, .int .i64 radius, .int .i64 band, .int .i64 t, .agg #[.int .i64 q_x, .int .i64 q_y], .int .i64 height] W fun e w' => e = .returned (.bool true) ∧ Below W.heap.size W w' := by
  obtain ⟨n, T, X, Y, H, R, B, hv⟩ := tv_of h_l
  have C := checkC hv
  by_cases hE : tck T X Y H R B n = 0
  · have hp := (tck_zero n).1 hE
    rw [hE] at C
    by_cases hx : wdOk radius band
    · rcases hv with ⟨h0, -⟩ | ⟨h0, b, off, cap, rfl, h1, h2, h3⟩
      · have := hp.pos; omega
      · have hv : TV W (.slice (some ⟨b, off, none⟩) n cap) n T X Y H R B := Or.inr ⟨h0, b, off, cap, rfl, h1, h2, h3⟩
        have h2' : cap ≤ 9223372036854775807 := Nat.le_trans h2 (by decide)
        have C2 : ∀ w1 v, TV w1 v n T X Y H (fun k => R k + radius) (fun k => B k + band) → Calls Try.prog 25 #[v] w1 fun e w' => e = .returned (.int .i64 (tck T X Y H (fun k => R k + radius) (fun k => B k + band) n)) ∧ Below w1.heap.size w1 w' := fun w1 v hv => checkC hv w1 (Below.refl _ _)
        have SW := fun (w1 : World) (hb : Below W.heap.size W w1) => widen_walk n cap b off T X Y H R B radius band _ w1 h0 hp.small h1 h2' (Lib.hid fun k hk => s6_keep hb (h3 k hk)) (Lib.hid fun w2 hb2 => C w2 (b_next hb hb2)) (Lib.hid C2) (Lib.hid fun k hk => (hp.nums k hk).2) hx (two _)
        by_cases hE2 : tck T X Y H (fun k => R k + radius) (fun k => B k + band) n = 0
        · have hp2 := (tck_zero n).1 hE2
          have IN := fun (w1 : World) (v : Value) (hb : Below W.heap.size W w1) (hv2 : TV w1 v n T X Y H (fun k => R k + radius) (fun k => B k + band)) => (insideC_ok (tv_keep hb hv) hv2 hp hp2).mono fun e w' ⟨⟨r, he, hr⟩, hbw⟩ => (⟨by rw [hr.2 (ins_more hx.1 hx.2.2.1)] at he; exact he, hbw⟩ : e = Ending.returned (.tuple #[.bool true, .int .i64 0]) ∧ Below w1.heap.size w1 w')
          have SC := fun (w1 : World) (hb : Below W.heap.size W w1) => (SW w1 hb).mono fun e w' hh => by
            obtain ⟨⟨h, -⟩ | ⟨-, g, cap', he, -, hc, hm, hr⟩, hbw⟩ := hh
            · exact absurd hE2 h
            · exact (⟨⟨g, cap', he, tf_tv h0 hc hm hr⟩, hbw⟩ : (∃ g cap', e = .returned (.tuple #[.slice (some ⟨g, 0, none⟩) n cap', .int .i64 0]) ∧ TV w' (.slice (some ⟨g, 0, none⟩) n cap') n T X Y H (fun k => R k + radius) (fun k => B k + band)) ∧ Below w1.heap.size w1 w')
          have heq : hasE T X Y H (fun k => R k + radius) (fun k => B k + band) n t q_x q_y height = hasE T X Y H R B n t q_x q_y height := by
            unfold hasE tatE; rw [hE, hE2]
          by_cases hh : hasE T X Y H R B n t q_x q_y height = 0
          · obtain ⟨hA, -⟩ := hasE_zero hh
            obtain ⟨-, t0, t1, -⟩ := tatE_zero hA
            have b1 := at_bds hp (segI_spec hp.pos t0) t1
            have b2 := at_bds hp2 (segI_spec hp.pos t0) t1
            refine body (some ⟨b, off, none⟩) n cap T X Y H _ _ radius band t q_x q_y height _ _ 0 W (Lib.hid (ist_of hv)) (Lib.hid SC) (Lib.hid IN) (Lib.hid fun w1 hb => has_ok (tv_keep hb hv) hh (segI_spec hp.pos t0)) (Lib.hid fun w1 v hv2 => has_ok hv2 (by rw [heq]; exact hh) (segI_spec hp.pos t0)) ?_
            cases hq : hasB T X Y H R B (segI T n t) t q_x q_y height with
            | false => exact Or.inl rfl
            | true => exact Or.inr ⟨rfl, in_has b1.2.2.1.1 b2.2.2.1.2 ((ins_more hx.1 hx.2.2.1).2.2 t t0 t1) hq⟩
          · exact body (some ⟨b, off, none⟩) n cap T X Y H _ _ radius band t q_x q_y height false false _ W (Lib.hid (ist_of hv)) (Lib.hid SC) (Lib.hid IN) (Lib.hid fun w1 hb => has_bad (tv_keep hb hv) hh) (Lib.hid fun w1 v hv2 => by
              have c := has_bad hv2 (u := t) (qx := q_x) (qy := q_y) (hh := height) (by rw [heq]; exact hh)
              rw [heq] at c
              exact c) (Or.inl rfl)
        · refine bad (some ⟨b, off, none⟩) n cap radius band t q_x q_y height 4 W (Lib.hid (ist_of hv)) (Lib.hid fun w1 hb => (SW w1 hb).mono ?_) (by decide) (by decide)
          rintro e w' ⟨⟨-, he⟩ | ⟨h, -⟩, hbw⟩
          · exact ⟨he, hbw⟩
          · exact absurd h hE2
    · have I := ist_of hv
      obtain ⟨A, c, rfl, -, -⟩ := tv_slice hv
      exact bad A n c radius band t q_x q_y height 4 W (Lib.hid I) (Lib.hid fun w1 hb => widen_no _ radius band w1 (Lib.hid fun w2 hb2 => C w2 (b_next hb hb2)) hx) (by decide) (by decide)
  · have I := ist_of hv
    obtain ⟨A, c, rfl, -, -⟩ := tv_slice hv
    exact bad A n c radius band t q_x q_y height _ W (Lib.hid I) (Lib.hid fun w1 hb => widen_bad _ radius band _ w1 (Lib.hid fun w2 hb2 => C w2 (b_next hb hb2)) (by simpa using hE) (by simpa using hE)) (by simpa using hE) (by simpa using hE)
-- FRAME --

set_option maxRecDepth 100000 in
theorem lifted (os : Os) (started : os.Started) (H : Type) (enc : TypeId × Value → H) :
    ReturnsInHanded {} Try.checked os 14 .any (Rows.tubeWidensSpec.pre6 enc Try.prog Try.f14 Rows.tubeWidensRow.domain false) (Rows.tubeWidensSpec.post enc Try.prog Try.f14 false true false false) :=
  Frame.lifted (C := Try.checked) 14 Try.f14 Try.own started (by kernel_rfl) Try.func14 Try.laidOut rfl (by kernel_rfl) 4 rfl Try.underlying4
      (fun ds h => by match ds, h with | [_, _, _, _, _, _], _ => rfl)
      (ChangeSpec.witness6 (enc := enc) (C := Try.checked) false ⟨#[], #[.slice none 0 0, .int .i64 0, .int .i64 0, .int .i64 0, .agg #[.int .i64 0, .int .i64 0], .int .i64 0], []⟩ 8 (by kernel_rfl) (by kernel_rfl) (by kernel_rfl) (by kernel_rfl))
      (fun W base args ds ps hval0 hA _ => by
        have hval : ∀ (j : Nat) t v, Try.f14.params[j]? = some t → args[j]? = some v → Value.okWide Try.prog W .any base t v := hval0
        have hA' : DataW.TrodAll enc Try.prog W 0 (fun _ => true) true Try.f14.params.toList args.toList ds ps := hA
        clear hval0 hA
        have hA := hA'
        clear hA'
        rw [Try.params14] at hA hval
        obtain ⟨v0, vs0, d0, ds0, p0, q0, ea, rfl, rfl, tr0, rest0⟩ := trodAll_cons hA
        obtain ⟨v1, vs1, d1, ds1, p1, q1, rfl, rfl, rfl, tr1, rest1⟩ := trodAll_cons rest0
        obtain ⟨v2, vs2, d2, ds2, p2, q2, rfl, rfl, rfl, tr2, rest2⟩ := trodAll_cons rest1
        obtain ⟨v3, vs3, d3, ds3, p3, q3, rfl, rfl, rfl, tr3, rest3⟩ := trodAll_cons rest2
        obtain ⟨v4, vs4, d4, ds4, p4, q4, rfl, rfl, rfl, tr4, rest4⟩ := trodAll_cons rest3
        obtain ⟨v5, vs5, d5, ds5, p5, q5, rfl, rfl, rfl, tr5, rest5⟩ := trodAll_cons rest4
        obtain ⟨rfl, rfl, rfl⟩ := trodAll_nil rest5
        obtain rfl : args = #[v0, v1, v2, v3, v4, v5] := by cases args; simp_all
        clear ea
        have sl_l : Frame.Okc W (.sl [.int, .int, .int, .int, .int, .int]) v0 := by obtain ⟨a, l, c, e⟩ := okWide_slice Try.underlying45 (hval 0 _ v0 rfl rfl); exact Frame.arg_cell (k := 8) (by kernel_rfl) (by have e2 : v0 = .slice a l c := e; rw [e2]; rfl) tr0
        obtain ⟨radius, rfl, w_radius⟩ := Frame.arg_int Try.underlying3 (hval 1 _ v1 rfl rfl)
        obtain ⟨band, rfl, w_band⟩ := Frame.arg_int Try.underlying3 (hval 2 _ v2 rfl rfl)
        obtain ⟨t, rfl, w_t⟩ := Frame.arg_int Try.underlying3 (hval 3 _ v3 rfl rfl)
        obtain ⟨cs_q, e_q, hl_q, hc_q⟩ := Frame.arg_agg Try.underlying26 (k := 8) (ks := [.int, .int]) (by kernel_rfl) (hval 4 _ v4 rfl rfl) tr4
        subst e_q
        obtain ⟨c_q_x, c_q_y, rfl⟩ : ∃ c_q_x c_q_y, cs_q = [c_q_x, c_q_y] := by match cs_q, hl_q with | [x0, x1], _ => exact ⟨x0, x1, rfl⟩
        have o_q_x : Frame.Okc W (.int) c_q_x := hc_q 0 (by decide) (by simp)
        obtain ⟨q_x, e_q_x, w_q_x⟩ := o_q_x.int_inv; subst e_q_x
        have o_q_y : Frame.Okc W (.int) c_q_y := hc_q 1 (by decide) (by simp)
        obtain ⟨q_y, e_q_y, w_q_y⟩ := o_q_y.int_inv; subst e_q_y
        obtain ⟨height, rfl, w_height⟩ := Frame.arg_int Try.underlying3 (hval 5 _ v5 rfl rfl)
        exact walk v0 radius band t q_x q_y height W sl_l (Frame.bd w_radius) (Frame.bd w_band) (Frame.bd w_t) w_q_x w_q_y (Frame.bd w_height))

/-- The statement. -/
theorem proved : Rows.TubeWidensSaid :=
  OpenClaim.holds_of_wide 14 Try.f14 rfl rfl rfl rfl rfl rfl rfl ⟨rfl, rfl, rfl, rfl, rfl⟩ rfl rfl rfl rfl rfl (by kernel_rfl) Try.func14 (by kernel_rfl)
    (of_decide_eq_true (by kernel_rfl)) (by unfold Func.isWrapper; first | (rw [if_pos (by decide +kernel)]; kernel_rfl) | (rw [if_neg (by decide +kernel)]; exact ⟨rfl, rfl⟩))
    (fun os started H enc _ => lifted os started H enc)
#print axioms proved
end TubeWidens
end Go.Proofs.Ytampbjbalenckaa

