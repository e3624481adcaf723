/- WindBounds: a greater uncertainty of the wind does not make the bounds of the speed narrower, and the wind from behind is as strong as that from ahead. For every input, where math's tables read as Go's library lays them. -/
import Derived.Test.YtkapllakofndlaaDoorWindM
import Derived.Test.YtkapllakofndlaaDoorDoorA
import Derived.Test.YtkapllakofndlaaDoorShapes
import Derived.Test.YtkapllakofndlaaDoorCards
namespace Go.Proofs.YtkapllakofndlaaDoor
open Go.RowKit Go.ChangeShapes Go.WideShapes
namespace WindBounds
open Kit Ang Num Plane Wind
set_option maxRecDepth 100000 in
set_option maxHeartbeats 4000000 in
theorem go_bad (sp hd l h x y er E : Int) (w : World) (hE1 : (E != 0) = true) (WK : Hid (∀ w1, Below w.heap.size w w1 → Calls Tryd.prog 21 #[] w1 fun e w' => e = .returned (.bool true) ∧ Below w1.heap.size w1 w'))
    (GR : Hid (∀ w1, Below w.heap.size w w1 → Calls Tryd.prog 22 #[.int .i64 sp, .int .i64 hd, band l h x y er] w1 fun ed w' => ed = .returned (.tuple #[.int .i64 0, .int .i64 0, .int .i64 E]) ∧ Below w1.heap.size w1 w')) :
    Calls Tryd.prog 8 #[.int .i64 sp, .int .i64 hd, band l h x y er] w fun e w' => e = .returned (.bool true) ∧ Below w.heap.size w w' := by
  have hE0 : (E == 0) = false := by simpa using hE1
  have N0 := Lib.hid (n5_new w 38 l h x y er)
  have W0 := Lib.hid (b_alloc (Below.refl w.heap.size w) (.cells #[.int .i64 l, .int .i64 h, .int .i64 x, .int .i64 y, .int .i64 er] 38))
  go_enter Tryd.func8, Tryd.ntmps8
  go_wp2_with fail
  (with_reducible refine (WK.out _ W0.out).mono ?_); rintro e w1 ⟨rfl, hb⟩
  have W1 := Lib.hid (b_next W0.out hb); have N1 := Lib.hid (n5_keep hb N0.out); clear hb
  obtain ⟨c0, c1, c2, c3, c4⟩ := N1.out
  rw [Nat.zero_add] at c1 c2 c3 c4
  go_wp2_with fail
  (with_reducible refine (GR.out _ W1.out).mono ?_); rintro e w2 ⟨rfl, hb⟩
  have W2 := Lib.hid (b_next W1.out hb); clear hb c0 c1 c2 c3 c4
  go_wp2_with fail
  go_ret
  exact ⟨by first | rfl | exact retb rfl | exact retb (by simp), W2.out⟩
set_option maxRecDepth 100000 in
set_option maxHeartbeats 4000000 in
theorem go (sp hd hd2 l h x y er lo hi a b c d : Int) (w : World) (hw : wrap64 (hd + 2048) = hd2) (bs : 1 ≤ sp ∧ sp ≤ 400) (bb : (1 ≤ a ∧ a ≤ 10000) ∧ (1 ≤ b ∧ b ≤ 10000) ∧ (1 ≤ c ∧ c ≤ 10000) ∧ (1 ≤ d ∧ d ≤ 10000)) (WK : Hid (∀ w1, Below w.heap.size w w1 → Calls Tryd.prog 21 #[] w1 fun e w' => e = .returned (.bool true) ∧ Below w1.heap.size w1 w'))
    (GR : Hid (∀ w1, Below w.heap.size w w1 → Calls Tryd.prog 22 #[.int .i64 sp, .int .i64 hd, band l h x y er] w1 fun ed w' => ed = .returned (.tuple #[.int .i64 lo, .int .i64 hi, .int .i64 0]) ∧ Below w1.heap.size w1 w'))
    (G2 : Hid (∀ w1, Below w.heap.size w w1 → Calls Tryd.prog 22 #[.int .i64 sp, .int .i64 hd, band l h x y 0] w1 fun ed w' => ed = .returned (.tuple #[.int .i64 a, .int .i64 b, .int .i64 0]) ∧ Below w1.heap.size w1 w'))
    (G3 : Hid (∀ w1, Below w.heap.size w w1 → Calls Tryd.prog 22 #[.int .i64 sp, .int .i64 hd2, band l h x y 0] w1 fun ed w' => ed = .returned (.tuple #[.int .i64 c, .int .i64 d, .int .i64 0]) ∧ Below w1.heap.size w1 w'))
    (h1 : lo ≤ a) (h2 : b ≤ hi) (h3 : lo ≤ hi) (h4 : b - a ≤ 1) (h5 : a = 1 ∨ c = 1 ∨ a + d = 2 * sp ∧ b + c = 2 * sp) :
    Calls Tryd.prog 8 #[.int .i64 sp, .int .i64 hd, band l h x y er] w fun e w' => e = .returned (.bool true) ∧ Below w.heap.size w w' := by
  have HW := Lib.hid hw; clear hw
  have g1 : ¬ a < lo := by omega
  have g2 : ¬ hi < b := by omega
  have g3 : ¬ hi < lo := by omega
  have g4 : ¬ 1 < b - a := by omega
  have H5 := Lib.hid h5; clear h5
  have N0 := Lib.hid (n5_new w 38 l h x y er)
  have W0 := Lib.hid (b_alloc (Below.refl w.heap.size w) (.cells #[.int .i64 l, .int .i64 h, .int .i64 x, .int .i64 y, .int .i64 er] 38))
  go_enter Tryd.func8, Tryd.ntmps8
  go_wp2_with fail
  (with_reducible refine (WK.out _ W0.out).mono ?_); rintro e w1 ⟨rfl, hb⟩
  have W1 := Lib.hid (b_next W0.out hb); have N1 := Lib.hid (n5_keep hb N0.out); clear hb
  obtain ⟨c0, c1, c2, c3, c4⟩ := N1.out
  rw [Nat.zero_add] at c1 c2 c3 c4
  go_wp2_with fail
  (with_reducible refine (GR.out _ W1.out).mono ?_); rintro e w2 ⟨rfl, hb⟩
  have W2 := Lib.hid (b_next W1.out hb); have N2 := Lib.hid (n5_keep hb N1.out); clear hb c0 c1 c2 c3 c4
  obtain ⟨c0, c1, c2, c3, c4⟩ := N2.out
  rw [Nat.zero_add] at c1 c2 c3 c4
  obtain ⟨w4, hw4⟩ : ∃ w4, w4 = w2.alloc (.cells #[.int .i64 l, .int .i64 h, .int .i64 x, .int .i64 y, .int .i64 0] 38) := ⟨_, rfl⟩
  have W4 : Hid (Below w.heap.size w w4) := Lib.hid (by rw [hw4]; exact b_alloc W2.out _)
  have N4 : Hid (N5 w4 w2.heap.size 0 l h x y 0) := Lib.hid (by rw [hw4]; exact n5_new _ _ _ _ _ _ _)
  have H4 : Hid (w2.alloc (.cells #[.int .i64 l, .int .i64 h, .int .i64 x, .int .i64 y, .int .i64 0] 38) = w4) := Lib.hid hw4.symm
  clear hw4
  go_wp2_with fail
  rw [H4.out]
  clear c0 c1 c2 c3 c4
  obtain ⟨c0, c1, c2, c3, c4⟩ := N4.out
  rw [Nat.zero_add] at c1 c2 c3 c4
  go_wp2_with fail
  (with_reducible refine (G2.out _ W4.out).mono ?_); rintro e w5 ⟨rfl, hb⟩
  have W5 := Lib.hid (b_next W4.out hb); have N5' := Lib.hid (n5_keep hb N4.out); clear hb c0 c1 c2 c3 c4 H4
  obtain ⟨c0, c1, c2, c3, c4⟩ := N5'.out
  rw [Nat.zero_add] at c1 c2 c3 c4
  go_wp2_with fail
  rw [HW.out]
  (with_reducible refine (G3.out _ W5.out).mono ?_); rintro e w6 ⟨rfl, hb⟩
  have W6 := Lib.hid (b_next W5.out hb); clear hb c0 c1 c2 c3 c4
  rcases H5.out with h5 | h5 | ⟨h5, h6⟩
  · subst h5
    go_wp2_with fail
    all_goals first | (exfalso; omega) | (go_ret; exact ⟨by first | rfl | exact retb rfl | exact retb (by simp), W6.out⟩)
  · subst h5
    go_wp2_with fail
    all_goals first | (exfalso; omega) | (go_ret; exact ⟨by first | rfl | exact retb rfl | exact retb (by simp), W6.out⟩)
  · obtain rfl : d = 2 * sp - a := by omega
    obtain rfl : c = 2 * sp - b := by omega
    go_wp2_with fail
    all_goals first | (exfalso; omega) | (go_ret; exact ⟨by first | rfl | exact retb rfl | exact retb (by simp; omega), W6.out⟩)
theorem w1_zero {l h x y e : Int} (hE : w1E l h x y e = 0) : w1E l h x y 0 = 0 := by
  obtain ⟨a, b, c, -⟩ := w1_ok hE
  unfold w1E werr outB
  rw [if_neg (by simp only [decide_eq_true_eq]; omega), if_neg (by omega)]
theorem walk (speed heading w_low w_high w_x w_y w_error : Int) (W : World) (hL : laidMetH Tryd.prog Door.laid W) (_ : -9223372036854775808 ≤ speed ∧ speed ≤ 9223372036854775807) (_ : -9223372036854775808 ≤ heading ∧ heading ≤ 9223372036854775807) (_ : -9223372036854775808 ≤ w_low ∧ w_low ≤ 9223372036854775807) (_ : -9223372036854775808 ≤ w_high ∧ w_high ≤ 9223372036854775807) (_ : -9223372036854775808 ≤ w_x ∧ w_x ≤ 9223372036854775807) (_ : -9223372036854775808 ≤ w_y ∧ w_y ≤ 9223372036854775807) (_ : -9223372036854775808 ≤ w_error ∧ w_error ≤ 9223372036854775807) :
    Calls Tryd.prog 8 #[.int .i64 speed, .int .i64 heading, .agg #[.int .i64 w_low, .int .i64 w_high, .int .i64 w_x, .int .i64 w_y, .int .i64 w_error]] W fun e w' => e = .returned (.bool true) ∧ Below W.heap.size W w' := by
  have T := Door.tabs_of hL
  have WK := fun w1 (hb : Below W.heap.size W w1) => Wind.works w1 (tabs_keep hb T)
  by_cases hE : w1E w_low w_high w_x w_y w_error = 0
  · by_cases hs : 1 ≤ speed ∧ speed ≤ 400
    · obtain ⟨-, bx, by', be⟩ := w1_ok hE
      have G1 := fun w1 (hb : Below W.heap.size W w1) => groundC speed heading w_low w_high w_x w_y w_error w1 (tabs_keep hb T) hE hs
      have G2 := fun w1 (hb : Below W.heap.size W w1) => groundC speed heading w_low w_high w_x w_y 0 w1 (tabs_keep hb T) (w1_zero hE) hs
      have G3 := fun w1 (hb : Below W.heap.size W w1) => groundC speed (wrap64 (heading + 2048)) w_low w_high w_x w_y 0 w1 (tabs_keep hb T) (w1_zero hE) hs
      obtain ⟨h1, h2, h3, h4, h5⟩ := bounds_law (hd := heading) hs bx by' be
      have q1 := ground_bds (hd := heading) (e := 0) hs bx by' (by omega)
      have q2 := ground_bds (hd := wrap64 (heading + 2048)) (e := 0) hs bx by' (by omega)
      exact go speed heading _ w_low w_high w_x w_y w_error _ _ _ _ _ _ W rfl hs (by unfold glo ghi at q1 q2; omega) (Lib.hid WK) (Lib.hid G1) (Lib.hid G2) (Lib.hid G3) h1 h2 h3 h4 h5
    · have G1 := fun w1 (hb : Below W.heap.size W w1) => ground_range speed heading w_low w_high w_x w_y w_error w1 hE (by omega)
      exact go_bad speed heading _ _ _ _ _ 4 W (by decide) (Lib.hid WK) (Lib.hid G1)
  · have G1 := fun w1 (hb : Below W.heap.size W w1) => ground_bad speed heading w_low w_high w_x w_y w_error _ w1 rfl (by simpa using hE) (by simpa using hE)
    exact go_bad speed heading _ _ _ _ _ _ W (by simpa using hE) (Lib.hid WK) (Lib.hid G1)
-- FRAME --

set_option maxRecDepth 100000 in
theorem lifted (os : Os) (started : os.Started) (H : Type) (enc : TypeId × Value → H) :
    ReturnsInHanded {} Tryd.checked os 8 .any (fun w args => (Rows.windBoundsSpec.pre enc Tryd.prog Tryd.f8 [] false w args ∧ laidMetH Tryd.prog Door.laid w) ∧ sizedMet enc Tryd.prog Tryd.f8 (OpenSpec.ofChange Rows.windBoundsSpec) false w args) (Rows.windBoundsSpec.post enc Tryd.prog Tryd.f8 false true false false) :=
  Frame.lifted_laid (C := Tryd.checked) 8 Tryd.f8 Tryd.own started (by kernel_rfl) Tryd.func8 Tryd.laidOut rfl (by kernel_rfl) 4 rfl Tryd.underlying4
      (fun ds h => by match ds, h with | [_, _, _], _ => rfl)
      (ChangeSpec.witness_at (enc := enc) (C := Tryd.checked) (os := os) (X := fun w _ => laidMetH Tryd.prog Door.laid w) false (Door.laidWorld os) #[.int .i64 0, .int .i64 0, .agg #[.int .i64 0, .int .i64 0, .int .i64 0, .int .i64 0, .int .i64 0]] 8 rfl (by kernel_rfl) (by kernel_rfl) (by kernel_rfl) (by kernel_rfl) (by kernel_rfl) (Door.laidWorld_met os _))
      (fun W base args ds ps hval0 hA _ hL => by
        have hval : ∀ (j : Nat) t v, Tryd.f8.params[j]? = some t → args[j]? = some v → Value.okWide Tryd.prog W .any base t v := hval0
        have hA' : DataW.TrodAll enc Tryd.prog W 0 (fun _ => true) true Tryd.f8.params.toList args.toList ds ps := hA
        clear hval0 hA
        have hA := hA'
        clear hA'
        rw [Tryd.params8] at hA hval
        obtain ⟨v0, vs0, d0, ds0, p0, q0, ea, rfl, rfl, tr0, rest0⟩ := trodAll_cons hA
        obtain ⟨v1, vs1, d1, ds1, p1, q1, rfl, rfl, rfl, tr1, rest1⟩ := trodAll_cons rest0
        obtain ⟨v2, vs2, d2, ds2, p2, q2, rfl, rfl, rfl, tr2, rest2⟩ := trodAll_cons rest1
        obtain ⟨rfl, rfl, rfl⟩ := trodAll_nil rest2
        obtain rfl : args = #[v0, v1, v2] := by cases args; simp_all
        clear ea
        obtain ⟨speed, rfl, w_speed⟩ := Frame.arg_int Tryd.underlying3 (hval 0 _ v0 rfl rfl)
        obtain ⟨heading, rfl, w_heading⟩ := Frame.arg_int Tryd.underlying3 (hval 1 _ v1 rfl rfl)
        obtain ⟨cs_w, e_w, hl_w, hc_w⟩ := Frame.arg_agg Tryd.underlying38 (k := 8) (ks := [.int, .int, .int, .int, .int]) (by kernel_rfl) (hval 2 _ v2 rfl rfl) tr2
        subst e_w
        obtain ⟨c_w_low, c_w_high, c_w_x, c_w_y, c_w_error, rfl⟩ : ∃ c_w_low c_w_high c_w_x c_w_y c_w_error, cs_w = [c_w_low, c_w_high, c_w_x, c_w_y, c_w_error] := by match cs_w, hl_w with | [x0, x1, x2, x3, x4], _ => exact ⟨x0, x1, x2, x3, x4, rfl⟩
        have o_w_low : Frame.Okc W (.int) c_w_low := hc_w 0 (by decide) (by simp)
        obtain ⟨w_low, e_w_low, w_w_low⟩ := o_w_low.int_inv; subst e_w_low
        have o_w_high : Frame.Okc W (.int) c_w_high := hc_w 1 (by decide) (by simp)
        obtain ⟨w_high, e_w_high, w_w_high⟩ := o_w_high.int_inv; subst e_w_high
        have o_w_x : Frame.Okc W (.int) c_w_x := hc_w 2 (by decide) (by simp)
        obtain ⟨w_x, e_w_x, w_w_x⟩ := o_w_x.int_inv; subst e_w_x
        have o_w_y : Frame.Okc W (.int) c_w_y := hc_w 3 (by decide) (by simp)
        obtain ⟨w_y, e_w_y, w_w_y⟩ := o_w_y.int_inv; subst e_w_y
        have o_w_error : Frame.Okc W (.int) c_w_error := hc_w 4 (by decide) (by simp)
        obtain ⟨w_error, e_w_error, w_w_error⟩ := o_w_error.int_inv; subst e_w_error
        exact walk speed heading w_low w_high w_x w_y w_error W hL (Frame.bd w_speed) (Frame.bd w_heading) w_w_low w_w_high w_w_x w_w_y w_w_error)

/-- The statement. -/
theorem row_holds : Rows.WindBoundsSaid :=
  OpenClaim.holds_of_wide 8 Tryd.f8 rfl rfl rfl rfl rfl rfl rfl ⟨rfl, rfl, rfl, rfl, rfl⟩ rfl rfl rfl rfl rfl (by kernel_rfl) Tryd.func8 (by kernel_rfl)
    (of_decide_eq_true (by kernel_rfl)) (by unfold Func.isWrapper; first | (rw [if_pos (by decide +kernel)]; kernel_rfl) | (rw [if_neg (by decide +kernel)]; exact ⟨rfl, rfl⟩))
    (fun os started H enc _ => lifted os started H enc)
/-- The tied card. -/
theorem proved : Rows.WindBoundsCardSaid :=
  Claim7.holds_tied_plain_at .later [] [.data, .data, .data] true (true, "6deb9ba2cff43c15501a76bdf9cd322ddee03e505f7501aaf9f3e71c3bb480ce") false
    row_holds (fun _ h => by cases h) (by kernel_rfl) (fun _ h => by cases h) windBounds_row_tie rfl ⟨rfl, rfl⟩ (by kernel_rfl) rfl
    (fun f fn hf hfn => by
      obtain rfl : f = 8 := Option.some.inj ((show Tryd.prog.funcNamed "skyway/skywaykeep1.WindBounds" = some 8 by kernel_rfl).symm.trans hf) |>.symm
      obtain rfl : fn = Tryd.f8 := (Option.some.inj (Tryd.func8.symm.trans hfn)).symm
      exact ⟨by kernel_rfl, fun j t ht => by
        rw [Tryd.params8] at ht
        have hall : ∀ t ∈ [3, 3, 38], Tryd.prog.wantsStandIn t = false := by
          intro t ht
          simp only [List.mem_cons, List.not_mem_nil, or_false] at ht
          rcases ht with rfl | rfl | rfl <;> kernel_rfl
        exact hall t (List.mem_iff_getElem?.2 ⟨j, by simpa using ht⟩)⟩)
    (by kernel_rfl)
#print axioms proved
end WindBounds
end Go.Proofs.YtkapllakofndlaaDoor

