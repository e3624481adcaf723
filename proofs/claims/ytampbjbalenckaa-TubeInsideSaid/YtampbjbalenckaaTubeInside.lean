/- TubeInside: if a tube is contained in another one, so are its points. For every input. -/
import Derived.Test.YtampbjbalenckaaInsQ
import Derived.Test.YtampbjbalenckaaTubeW
namespace Go.Proofs.Ytampbjbalenckaa
open Go.RowKit Go.ChangeShapes Go.WideShapes
namespace TubeInside
open Kit Plane Tube
theorem q2_ist {w : World} {b : Nat} {u v : Value} (h : Q2 w b u v) (hu : IsT w u) (hv : IsT w v) : ∀ k, k < 2 → w.cell? ⟨b, k, none⟩ = some ((fun k => if k = 0 then u else v) k) ∧ IsT w ((fun k => if k = 0 then u else v) k) := by
  intro k hk
  rcases (show k = 0 ∨ k = 1 from by omega) with rfl | rfl
  · exact ⟨h.1, hu⟩
  · exact ⟨h.2, hv⟩
set_option maxRecDepth 100000 in
set_option maxHeartbeats 2000000 in
theorem body (A A' : Option Addr) (m m' c c' : Nat) (t qx qy hh : Int) (is x y : Bool) (E f g : Int) (w : World) (I1 : Hid (IsT w (.slice A m c))) (I2 : Hid (IsT w (.slice A' m' c')))
    (IN : Hid (∀ w1, Below w.heap.size w w1 → Calls Try.prog 37 #[.slice A m c, .slice A' m' c'] w1 fun e w' => e = .returned (.tuple #[.bool is, .int .i64 E]) ∧ Below w1.heap.size w1 w'))
    (H1 : Hid (∀ w1, Below w.heap.size w w1 → Calls Try.prog 30 #[.slice A m c, .int .i64 t, .agg #[.int .i64 qx, .int .i64 qy], .int .i64 hh] w1 fun e w' => e = .returned (.tuple #[.bool x, .int .i64 f]) ∧ Below w1.heap.size w1 w'))
    (H2 : Hid (∀ w1, Below w.heap.size w w1 → Calls Try.prog 30 #[.slice A' m' c', .int .i64 t, .agg #[.int .i64 qx, .int .i64 qy], .int .i64 hh] w1 fun e w' => e = .returned (.tuple #[.bool y, .int .i64 g]) ∧ Below w1.heap.size w1 w'))
    (hx : is = false ∨ (is = true ∧ E = 0 ∧ (((f != 0) = true) ∨ ((f != 0) = false ∧ x = false) ∨ ((f != 0) = false ∧ x = true ∧ (g == 0) = true ∧ y = true)))) :
    Calls Try.prog 12 #[.slice A m c, .slice A' m' c', .int .i64 t, .agg #[.int .i64 qx, .int .i64 qy], .int .i64 hh] w fun e w' => e = .returned (.bool true) ∧ Below w.heap.size w w' := by
  go_enter Try.func12, Try.ntmps12
  have HP := Lib.hid (p2_new w 26 qx qy)
  have HW := Lib.hid (b_alloc (Below.refl w.heap.size w) (.cells #[.int .i64 qx, .int .i64 qy] 26))
  go_wp2_with fail
  (with_reducible refine (tubeWorks _).mono ?_); rintro e w1 ⟨rfl, h⟩
  have W1 := Lib.hid (b_next HW.out h); have P1 := Lib.hid (p2_keep h HP.out); clear h
  have Q1 := Lib.hid (q2_new w1 45 (.slice A m c) (.slice A' m' c'))
  have W1' := Lib.hid (b_alloc W1.out (.cells #[.slice A m c, .slice A' m' c'] 45))
  have P1' := Lib.hid (p2_alloc (.cells #[.slice A m c, .slice A' m' c'] 45) P1.out)
  go_wp2_with fail
  (with_reducible refine (long_any _ 2 2 _ _ (Nat.le_refl _) (by decide) (Lib.hid (q2_ist Q1.out (isT_keep W1'.out I1.out) (isT_keep W1'.out I2.out)))).mono ?_); rintro e w2 ⟨⟨r, rfl⟩, h⟩
  have W2 := Lib.hid (b_next W1'.out h); obtain ⟨p0, p1⟩ := p2_keep h P1'.out; clear h
  cases r with
  | true =>
    go_wp2_with fail
    go_ret
    exact ⟨retb rfl, W2.out⟩
  | false =>
    go_wp2_with fail
    (with_reducible refine (IN.out _ W2.out).mono ?_); rintro e w3 ⟨rfl, h⟩
    have W3 := Lib.hid (b_next W2.out h); have P3 := Lib.hid (p2_keep h ⟨p0, p1⟩); clear h p0 p1
    rcases hx with rfl | ⟨rfl, rfl, hx⟩
    · go_wp2_with fail
      all_goals first | (go_ret; exact ⟨retb rfl, W3.out⟩) | (exfalso; simp_all; done)
    · obtain ⟨p0, p1⟩ := P3.out
      go_wp2_with fail
      (with_reducible refine (H1.out _ W3.out).mono ?_); rintro e w4 ⟨rfl, h⟩
      have W4 := Lib.hid (b_next W3.out h); replace p0 := keep h p0; replace p1 := keep h p1; clear h
      go_wp2_with fail
      (with_reducible refine (H2.out _ W4.out).mono ?_); rintro e w5 ⟨rfl, h⟩
      have W5 := Lib.hid (b_next W4.out h); clear h p0 p1
      rcases hx with e1 | ⟨e1, rfl⟩ | ⟨e1, rfl, e2, rfl⟩
      all_goals
        go_wp2_with fail
        go_ret
        exact ⟨retb (by simp), W5.out⟩
theorem bne {x : Int} : ((x != 0) = true ↔ x ≠ 0) ∧ ((x != 0) = false ↔ x = 0) := ⟨by simp, by simp⟩
theorem ist_of {w : World} {v : Value} {n : Nat} {T X Y H R B : Nat → Int} (h : TV w v n T X Y H R B) : IsT w v := ⟨n, T, X, Y, H, R, B, h⟩
/-- tube.Has returns. -/
theorem has_any {v : Value} {n : Nat} {T X Y H R B : Nat → Int} {w : World} (hv : TV w v n T X Y H R B) (u qx qy hh : Int) : ∃ (x : Bool) (f : Int), (∀ w1, Below w.heap.size w w1 → Calls Try.prog 30 #[v, .int .i64 u, .agg #[.int .i64 qx, .int .i64 qy], .int .i64 hh] w1 fun e w' => e = .returned (.tuple #[.bool x, .int .i64 f]) ∧ Below w1.heap.size w1 w') ∧
    ((f ≠ 0 ∧ x = false ∧ f = hasE T X Y H R B n u qx qy hh) ∨ (f = 0 ∧ hasE T X Y H R B n u qx qy hh = 0 ∧ x = hasB T X Y H R B (segI T n u) u qx qy hh)) := by
  by_cases h : hasE T X Y H R B n u qx qy hh = 0
  · obtain ⟨hE, -⟩ := hasE_zero h
    obtain ⟨hp, h0, -⟩ := tatE_zero hE
    exact ⟨_, 0, fun w1 hb => has_ok (tv_keep hb hv) h (segI_spec hp.pos h0), Or.inr ⟨rfl, h, rfl⟩⟩
  · exact ⟨false, _, fun w1 hb => has_bad (tv_keep hb hv) h, Or.inl ⟨h, rfl, rfl⟩⟩
theorem walk (a : Value) (b : Value) (t : Int) (q_x : Int) (q_y : Int) (height : Int) (W : World) (h_a : Frame.Okc W (.sl [.int, .int, .int, .int, .int, .int]) a) (h_b : Frame.Okc W (.sl [.int, .int, .int, .int, .int, .int]) b) (_h_t : -9223372036854775808 ≤ t ∧ t ≤ 9223372036854775807) (_h_q_x : -9223372036854775808 ≤ q_x ∧ q_x ≤ 9223372036854775807) (_h_q_y : -9223372036854775808 ≤ q_y ∧ q_y ≤ 9223372036854775807) (_h_height : -9223372036854775808 ≤ height ∧ height ≤ 9223372036854775807) :
    Calls Try.prog 12 #[a, b, .int .i64 t, .agg #[.int .i64 q_x, .int .i64 q_y], .int .i64 height] W fun e w' => e = .returned (.bool true) ∧ Below W.heap.size W w' := by
  obtain ⟨n, T, X, Y, H, R, B, hu⟩ := tv_of h_a
  obtain ⟨n', T', X', Y', H', R', B', hv⟩ := tv_of h_b
  obtain ⟨x, f, H1, hf⟩ := has_any hu t q_x q_y height
  obtain ⟨y, g, H2, hg⟩ := has_any hv t q_x q_y height
  obtain ⟨A, c, rfl, -, -⟩ := tv_slice hu
  obtain ⟨A', c', rfl, -, -⟩ := tv_slice hv
  by_cases h1 : tck T X Y H R B n = 0
  · by_cases h2 : tck T' X' Y' H' R' B' n' = 0
    · have hp := (tck_zero n).1 h1
      have hp' := (tck_zero n').1 h2
      by_cases hi : InsP T X Y H R B n T' X' Y' H' R' B' n'
      · refine body A A' n n' c c' t q_x q_y height true x y 0 f g W (Lib.hid (ist_of hu)) (Lib.hid (ist_of hv)) (Lib.hid fun w1 hb => (insideC_ok (tv_keep hb hu) (tv_keep hb hv) hp hp').mono ?_) (Lib.hid H1) (Lib.hid H2) (Or.inr ⟨rfl, rfl, ?_⟩)
        · rintro e w' ⟨⟨r, he, hr⟩, hbw⟩
          rw [hr.2 hi] at he
          exact ⟨he, hbw⟩
        · rcases hf with ⟨hf, -, -⟩ | ⟨hf, hfE, hfx⟩
          · exact Or.inl (bne.1.2 hf)
          · cases x with
            | false => exact Or.inr (Or.inl ⟨bne.2.2 hf, rfl⟩)
            | true =>
              obtain ⟨hE, hc, h3, h4⟩ := hasE_zero hfE
              obtain ⟨-, t0, t1, -⟩ := tatE_zero hE
              have hE' := hasE_ok hp' (u := t) (qx := q_x) (qy := q_y) (hh := height) (by have := hi.1; omega) (by have := hi.2.1; omega) hc ⟨h3, h4⟩
              rcases hg with ⟨hg, -, hge⟩ | ⟨hg, -, hgy⟩
              · rw [hE'] at hge; exact absurd hge hg
              · refine Or.inr (Or.inr ⟨bne.2.2 hf, rfl, by rw [hg]; rfl, ?_⟩)
                have b1 := at_bds hp (segI_spec hp.pos t0) t1
                have b2 := at_bds hp' (segI_spec hp'.pos (show T' 0 ≤ t by have := hi.1; omega)) (show t ≤ T' (n' - 1) by have := hi.2.1; omega)
                rw [hgy]
                exact in_has b1.2.2.1.1 b2.2.2.1.2 (hi.2.2 t t0 t1) hfx.symm
      · refine body A A' n n' c c' t q_x q_y height false x y 0 f g W (Lib.hid (ist_of hu)) (Lib.hid (ist_of hv)) (Lib.hid fun w1 hb => (insideC_ok (tv_keep hb hu) (tv_keep hb hv) hp hp').mono ?_) (Lib.hid H1) (Lib.hid H2) (Or.inl rfl)
        rintro e w' ⟨⟨r, he, hr⟩, hbw⟩
        cases r with
        | true => exact absurd (hr.1 rfl) hi
        | false => exact ⟨he, hbw⟩
    · exact body A A' n n' c c' t q_x q_y height false x y _ f g W (Lib.hid (ist_of hu)) (Lib.hid (ist_of hv)) (Lib.hid fun w1 hb => insideC_bad (tv_keep hb hu) (tv_keep hb hv) h2 (Or.inr ⟨h1, rfl⟩)) (Lib.hid H1) (Lib.hid H2) (Or.inl rfl)
  · exact body A A' n n' c c' t q_x q_y height false x y _ f g W (Lib.hid (ist_of hu)) (Lib.hid (ist_of hv)) (Lib.hid fun w1 hb => insideC_bad (tv_keep hb hu) (tv_keep hb hv) h1 (Or.inl rfl)) (Lib.hid H1) (Lib.hid H2) (Or.inl rfl)
-- FRAME --

set_option maxRecDepth 100000 in
theorem lifted (os : Os) (started : os.Started) (H : Type) (enc : TypeId × Value → H) :
    ReturnsInHanded {} Try.checked os 12 .any (Rows.tubeInsideSpec.pre6 enc Try.prog Try.f12 Rows.tubeInsideRow.domain false) (Rows.tubeInsideSpec.post enc Try.prog Try.f12 false true false false) :=
  Frame.lifted (C := Try.checked) 12 Try.f12 Try.own started (by kernel_rfl) Try.func12 Try.laidOut rfl (by kernel_rfl) 4 rfl Try.underlying4
      (fun ds h => by match ds, h with | [_, _, _, _, _], _ => rfl)
      (ChangeSpec.witness6 (enc := enc) (C := Try.checked) false ⟨#[], #[.slice none 0 0, .slice none 0 0, .int .i64 0, .agg #[.int .i64 0, .int .i64 0], .int .i64 0], []⟩ 8 (by kernel_rfl) (by kernel_rfl) (by kernel_rfl) (by kernel_rfl))
      (fun W base args ds ps hval0 hA _ => by
        have hval : ∀ (j : Nat) t v, Try.f12.params[j]? = some t → args[j]? = some v → Value.okWide Try.prog W .any base t v := hval0
        have hA' : DataW.TrodAll enc Try.prog W 0 (fun _ => true) true Try.f12.params.toList args.toList ds ps := hA
        clear hval0 hA
        have hA := hA'
        clear hA'
        rw [Try.params12] at hA hval
        obtain ⟨v0, vs0, d0, ds0, p0, q0, ea, rfl, rfl, tr0, rest0⟩ := trodAll_cons hA
        obtain ⟨v1, vs1, d1, ds1, p1, q1, rfl, rfl, rfl, tr1, rest1⟩ := trodAll_cons rest0
        obtain ⟨v2, vs2, d2, ds2, p2, q2, rfl, rfl, rfl, tr2, rest2⟩ := trodAll_cons rest1
        obtain ⟨v3, vs3, d3, ds3, p3, q3, rfl, rfl, rfl, tr3, rest3⟩ := trodAll_cons rest2
        obtain ⟨v4, vs4, d4, ds4, p4, q4, rfl, rfl, rfl, tr4, rest4⟩ := trodAll_cons rest3
        obtain ⟨rfl, rfl, rfl⟩ := trodAll_nil rest4
        obtain rfl : args = #[v0, v1, v2, v3, v4] := by cases args; simp_all
        clear ea
        have sl_a : Frame.Okc W (.sl [.int, .int, .int, .int, .int, .int]) v0 := by obtain ⟨a, l, c, e⟩ := okWide_slice Try.underlying45 (hval 0 _ v0 rfl rfl); exact Frame.arg_cell (k := 8) (by kernel_rfl) (by have e2 : v0 = .slice a l c := e; rw [e2]; rfl) tr0
        have sl_b : Frame.Okc W (.sl [.int, .int, .int, .int, .int, .int]) v1 := by obtain ⟨a, l, c, e⟩ := okWide_slice Try.underlying45 (hval 1 _ v1 rfl rfl); exact Frame.arg_cell (k := 8) (by kernel_rfl) (by have e2 : v1 = .slice a l c := e; rw [e2]; rfl) tr1
        obtain ⟨t, rfl, w_t⟩ := Frame.arg_int Try.underlying3 (hval 2 _ v2 rfl rfl)
        obtain ⟨cs_q, e_q, hl_q, hc_q⟩ := Frame.arg_agg Try.underlying26 (k := 8) (ks := [.int, .int]) (by kernel_rfl) (hval 3 _ v3 rfl rfl) tr3
        subst e_q
        obtain ⟨c_q_x, c_q_y, rfl⟩ : ∃ c_q_x c_q_y, cs_q = [c_q_x, c_q_y] := by match cs_q, hl_q with | [x0, x1], _ => exact ⟨x0, x1, rfl⟩
        have o_q_x : Frame.Okc W (.int) c_q_x := hc_q 0 (by decide) (by simp)
        obtain ⟨q_x, e_q_x, w_q_x⟩ := o_q_x.int_inv; subst e_q_x
        have o_q_y : Frame.Okc W (.int) c_q_y := hc_q 1 (by decide) (by simp)
        obtain ⟨q_y, e_q_y, w_q_y⟩ := o_q_y.int_inv; subst e_q_y
        obtain ⟨height, rfl, w_height⟩ := Frame.arg_int Try.underlying3 (hval 4 _ v4 rfl rfl)
        exact walk v0 v1 t q_x q_y height W sl_a sl_b (Frame.bd w_t) w_q_x w_q_y (Frame.bd w_height))

/-- The statement. -/
theorem proved : Rows.TubeInsideSaid :=
  OpenClaim.holds_of_wide 12 Try.f12 rfl rfl rfl rfl rfl rfl rfl ⟨rfl, rfl, rfl, rfl, rfl⟩ rfl rfl rfl rfl rfl (by kernel_rfl) Try.func12 (by kernel_rfl)
    (of_decide_eq_true (by kernel_rfl)) (by unfold Func.isWrapper; first | (rw [if_pos (by decide +kernel)]; kernel_rfl) | (rw [if_neg (by decide +kernel)]; exact ⟨rfl, rfl⟩))
    (fun os started H enc _ => lifted os started H enc)
#print axioms proved
end TubeInside
end Go.Proofs.Ytampbjbalenckaa

