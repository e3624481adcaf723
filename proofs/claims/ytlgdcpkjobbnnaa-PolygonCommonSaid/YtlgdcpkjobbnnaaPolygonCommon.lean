/- PolygonCommon: the common points of two segments do not depend on the order of the segments and of their ends. For every input. -/
import Derived.Test.YtlgdcpkjobbnnaaPolyWorks
import Derived.Test.YtlgdcpkjobbnnaaNear
namespace Go.Proofs.Ytlgdcpkjobbnnaa
open Go.RowKit Go.ChangeShapes Go.WideShapes
namespace PolygonCommon
open Kit Plane Poly
theorem crs_swap (ax ay bx by' cx cy : Int) : crs bx by' ax ay cx cy = -crs ax ay bx by' cx cy := by
  unfold crs
  have e1 : (ax - bx) * (cy - by') - (ay - by') * (cx - bx) = -((bx - ax) * (cy - ay) - (by' - ay) * (cx - ax)) := by
    simp only [Int.sub_mul, Int.mul_sub]
    have := Int.mul_comm ax by'; have := Int.mul_comm bx ay; have := Int.mul_comm bx by'; have := Int.mul_comm ax ay
    omega
  exact e1
theorem crs_same (ax ay bx by' : Int) : crs ax ay bx by' ax ay = 0 := by unfold crs; simp
theorem btw_swap (ax ay bx by' cx cy : Int) : btw bx by' ax ay cx cy = btw ax ay bx by' cx cy := by
  unfold btw; rw [decide_eq_decide]; omega
theorem on_swap (ax ay bx by' cx cy : Int) : onB bx by' ax ay cx cy = onB ax ay bx by' cx cy := by
  unfold onB; rw [btw_swap, crs_swap]
  congr 1
  rw [decide_eq_decide]; omega
theorem on_end (ax ay bx by' : Int) : onB ax ay bx by' ax ay = true := by
  unfold onB btw; rw [crs_same]; simp; omega
theorem cross_swap (ax ay bx by' cx cy dx dy : Int) : crossB bx by' ax ay dx dy cx cy = crossB ax ay bx by' cx cy dx dy := by
  unfold crossB
  rw [crs_swap ax ay bx by' dx dy, crs_swap ax ay bx by' cx cy, crs_swap cx cy dx dy bx by', crs_swap cx cy dx dy ax ay]
  simp only [sgn_opp, Int.neg_mul_neg]
  rw [Int.mul_comm (sgn (crs ax ay bx by' dx dy)), Int.mul_comm (sgn (crs cx cy dx dy bx by'))]
theorem common_sym (ax ay bx by' cx cy dx dy : Int) : commonB cx cy dx dy ax ay bx by' = commonB ax ay bx by' cx cy dx dy := by
  unfold commonB crossB
  rw [Bool.and_comm]
  cases (decide (sgn (crs ax ay bx by' cx cy) * sgn (crs ax ay bx by' dx dy) < 0) && decide (sgn (crs cx cy dx dy ax ay) * sgn (crs cx cy dx dy bx by') < 0)) <;> cases onB cx cy dx dy ax ay <;> cases onB cx cy dx dy bx by' <;> cases onB ax ay bx by' cx cy <;> cases onB ax ay bx by' dx dy <;> rfl
theorem common_swap (ax ay bx by' cx cy dx dy : Int) : commonB bx by' ax ay dx dy cx cy = commonB ax ay bx by' cx cy dx dy := by
  unfold commonB
  rw [cross_swap, on_swap ax ay bx by' dx dy, on_swap ax ay bx by' cx cy, on_swap cx cy dx dy bx by', on_swap cx cy dx dy ax ay]
  cases crossB ax ay bx by' cx cy dx dy <;> cases onB cx cy dx dy ax ay <;> cases onB cx cy dx dy bx by' <;> cases onB ax ay bx by' cx cy <;> cases onB ax ay bx by' dx dy <;> rfl
theorem common_same (ax ay bx by' cx cy : Int) : commonB ax ay bx by' ax ay cx cy = true := by
  unfold commonB; rw [on_end]; cases crossB ax ay bx by' ax ay cx cy <;> rfl
def px4 (a b c d : Int) : Nat → Int := fun k => if k = 0 then a else if k = 1 then b else if k = 2 then c else d
theorem near_x4 (w : World) (t : TypeId) (ax ay bx by' cx cy dx dy : Int) (b : Nat) (hb : b = w.heap.size := by simp) : ∀ k, k < 4 → (w.alloc (.cells #[.int .i64 ax, .int .i64 ay, .int .i64 bx, .int .i64 by', .int .i64 cx, .int .i64 cy, .int .i64 dx, .int .i64 dy] t)).cell? ⟨b, k * 2, none⟩ = some (.int .i64 (px4 ax bx cx dx k))
  | 0, _ => by subst hb; simp [px4]
  | 1, _ => by subst hb; simp [px4]
  | 2, _ => by subst hb; simp [px4]
  | 3, _ => by subst hb; simp [px4]
theorem near_y4 (w : World) (t : TypeId) (ax ay bx by' cx cy dx dy : Int) (b : Nat) (hb : b = w.heap.size := by simp) : ∀ k, k < 4 → (w.alloc (.cells #[.int .i64 ax, .int .i64 ay, .int .i64 bx, .int .i64 by', .int .i64 cx, .int .i64 cy, .int .i64 dx, .int .i64 dy] t)).cell? ⟨b, k * 2 + 1, none⟩ = some (.int .i64 (px4 ay by' cy dy k))
  | 0, _ => by subst hb; simp [px4]
  | 1, _ => by subst hb; simp [px4]
  | 2, _ => by subst hb; simp [px4]
  | 3, _ => by subst hb; simp [px4]
abbrev N4 (xs ys : Nat → Int) (r : Bool) : Prop := ∀ (b : Nat) (w : World), b < w.heap.size → (∀ k, k < 4 → w.cell? ⟨b, k * 2, none⟩ = some (.int .i64 (xs k))) → (∀ k, k < 4 → w.cell? ⟨b, k * 2 + 1, none⟩ = some (.int .i64 (ys k))) →
    Calls Try.prog 16 #[.slice (some ⟨b, 0, none⟩) 4 4] w fun e w' => e = .returned (.bool r) ∧ Below w.heap.size w w'
set_option maxHeartbeats 2000000 in
theorem far (a_x a_y b_x b_y c_x c_y d_x d_y : Int) (w : World) (N : Hid (N4 (px4 a_x b_x c_x d_x) (px4 a_y b_y c_y d_y) false)) :
    Calls Try.prog 3 #[.agg #[.int .i64 a_x, .int .i64 a_y], .agg #[.int .i64 b_x, .int .i64 b_y], .agg #[.int .i64 c_x, .int .i64 c_y], .agg #[.int .i64 d_x, .int .i64 d_y]] w fun e w' => e = .returned (.bool true) ∧ Below w.heap.size w w' := by
  go_enter Try.func3, Try.ntmps3
  have Ha := Lib.hid (p2_alloc (.cells #[.int .i64 d_x, .int .i64 d_y] 23) (p2_alloc (.cells #[.int .i64 c_x, .int .i64 c_y] 23) (p2_alloc (.cells #[.int .i64 b_x, .int .i64 b_y] 23) (p2_new w 23 a_x a_y))))
  have Hb := Lib.hid (p2_alloc (.cells #[.int .i64 d_x, .int .i64 d_y] 23) (p2_alloc (.cells #[.int .i64 c_x, .int .i64 c_y] 23) (p2_new1 w (.cells #[.int .i64 a_x, .int .i64 a_y] 23) 23 b_x b_y)))
  have Hc := Lib.hid (p2_alloc (.cells #[.int .i64 d_x, .int .i64 d_y] 23) (p2_new2 w (.cells #[.int .i64 a_x, .int .i64 a_y] 23) (.cells #[.int .i64 b_x, .int .i64 b_y] 23) 23 c_x c_y))
  have Hd := Lib.hid (p2_new3 w (.cells #[.int .i64 a_x, .int .i64 a_y] 23) (.cells #[.int .i64 b_x, .int .i64 b_y] 23) (.cells #[.int .i64 c_x, .int .i64 c_y] 23) 23 d_x d_y)
  have HW := Lib.hid (b_alloc (b_alloc (b_alloc (b_alloc (Below.refl w.heap.size w) (.cells #[.int .i64 a_x, .int .i64 a_y] 23)) (.cells #[.int .i64 b_x, .int .i64 b_y] 23)) (.cells #[.int .i64 c_x, .int .i64 c_y] 23)) (.cells #[.int .i64 d_x, .int .i64 d_y] 23))
  go_wp2_with fail
  refine (polygonWorks _).mono ?_; rintro e w1 ⟨rfl, h⟩
  have ka := p2_keep h Ha.out
  have kb := p2_keep h Hb.out
  have kc := p2_keep h Hc.out
  have kd := p2_keep h Hd.out
  have hw := b_next HW.out h; clear h
  go_wp2_with fail
  refine (N.out _ _ (by simp) (near_x4 w1 23 a_x a_y b_x b_y c_x c_y d_x d_y _) (near_y4 w1 23 a_x a_y b_x b_y c_x c_y d_x d_y _)).mono ?_; rintro e w2 ⟨rfl, h⟩
  have h' := b_next (b_alloc (Below.refl w1.heap.size w1) (.cells #[.int .i64 a_x, .int .i64 a_y, .int .i64 b_x, .int .i64 b_y, .int .i64 c_x, .int .i64 c_y, .int .i64 d_x, .int .i64 d_y] 23)) h
  replace ka := p2_keep h' ka
  replace kb := p2_keep h' kb
  replace kc := p2_keep h' kc
  replace kd := p2_keep h' kd
  replace hw := b_next hw h'; clear h h'
  go_wp2_with fail
  go_ret
  exact ⟨retb rfl, hw⟩
set_option maxHeartbeats 4000000 in
theorem close (a_x a_y b_x b_y c_x c_y d_x d_y : Int) (q : Bool) (w : World) (N : Hid (N4 (px4 a_x b_x c_x d_x) (px4 a_y b_y c_y d_y) true)) (C1 : Hid (CrCo a_x a_y b_x b_y c_x c_y d_x d_y q)) (C2 : Hid (CrCo c_x c_y d_x d_y a_x a_y b_x b_y q)) (C3 : Hid (CrCo b_x b_y a_x a_y d_x d_y c_x c_y q)) (C4 : Hid (CrCo a_x a_y b_x b_y a_x a_y c_x c_y true)) :
    Calls Try.prog 3 #[.agg #[.int .i64 a_x, .int .i64 a_y], .agg #[.int .i64 b_x, .int .i64 b_y], .agg #[.int .i64 c_x, .int .i64 c_y], .agg #[.int .i64 d_x, .int .i64 d_y]] w fun e w' => e = .returned (.bool true) ∧ Below w.heap.size w w' := by
  cases q
  all_goals
    go_enter Try.func3, Try.ntmps3
    have Ha := Lib.hid (p2_alloc (.cells #[.int .i64 d_x, .int .i64 d_y] 23) (p2_alloc (.cells #[.int .i64 c_x, .int .i64 c_y] 23) (p2_alloc (.cells #[.int .i64 b_x, .int .i64 b_y] 23) (p2_new w 23 a_x a_y))))
    have Hb := Lib.hid (p2_alloc (.cells #[.int .i64 d_x, .int .i64 d_y] 23) (p2_alloc (.cells #[.int .i64 c_x, .int .i64 c_y] 23) (p2_new1 w (.cells #[.int .i64 a_x, .int .i64 a_y] 23) 23 b_x b_y)))
    have Hc := Lib.hid (p2_alloc (.cells #[.int .i64 d_x, .int .i64 d_y] 23) (p2_new2 w (.cells #[.int .i64 a_x, .int .i64 a_y] 23) (.cells #[.int .i64 b_x, .int .i64 b_y] 23) 23 c_x c_y))
    have Hd := Lib.hid (p2_new3 w (.cells #[.int .i64 a_x, .int .i64 a_y] 23) (.cells #[.int .i64 b_x, .int .i64 b_y] 23) (.cells #[.int .i64 c_x, .int .i64 c_y] 23) 23 d_x d_y)
    have HW := Lib.hid (b_alloc (b_alloc (b_alloc (b_alloc (Below.refl w.heap.size w) (.cells #[.int .i64 a_x, .int .i64 a_y] 23)) (.cells #[.int .i64 b_x, .int .i64 b_y] 23)) (.cells #[.int .i64 c_x, .int .i64 c_y] 23)) (.cells #[.int .i64 d_x, .int .i64 d_y] 23))
    go_wp2_with fail
    refine (polygonWorks _).mono ?_; rintro e w1 ⟨rfl, h⟩
    have ka := p2_keep h Ha.out
    have kb := p2_keep h Hb.out
    have kc := p2_keep h Hc.out
    have kd := p2_keep h Hd.out
    have hw := b_next HW.out h; clear h
    go_wp2_with fail
    refine (N.out _ _ (by simp) (near_x4 w1 23 a_x a_y b_x b_y c_x c_y d_x d_y _) (near_y4 w1 23 a_x a_y b_x b_y c_x c_y d_x d_y _)).mono ?_; rintro e w2 ⟨rfl, h⟩
    have h' := b_next (b_alloc (Below.refl w1.heap.size w1) (.cells #[.int .i64 a_x, .int .i64 a_y, .int .i64 b_x, .int .i64 b_y, .int .i64 c_x, .int .i64 c_y, .int .i64 d_x, .int .i64 d_y] 23)) h
    replace ka := p2_keep h' ka
    replace kb := p2_keep h' kb
    replace kc := p2_keep h' kc
    replace kd := p2_keep h' kd
    replace hw := b_next hw h'; clear h h'
    go_wp2_with fail
    refine (C1.out _).mono ?_; rintro e w3 ⟨rfl, h⟩
    replace ka := p2_keep h ka
    replace kb := p2_keep h kb
    replace kc := p2_keep h kc
    replace kd := p2_keep h kd
    replace hw := b_next hw h; clear h
    go_wp2_with fail
    refine (C2.out _).mono ?_; rintro e w4 ⟨rfl, h⟩
    replace ka := p2_keep h ka
    replace kb := p2_keep h kb
    replace kc := p2_keep h kc
    replace kd := p2_keep h kd
    replace hw := b_next hw h; clear h
    go_wp2_with fail
    refine (C3.out _).mono ?_; rintro e w5 ⟨rfl, h⟩
    replace ka := p2_keep h ka
    replace kb := p2_keep h kb
    replace kc := p2_keep h kc
    replace kd := p2_keep h kd
    replace hw := b_next hw h; clear h
    go_wp2_with fail
    refine (C4.out _).mono ?_; rintro e w6 ⟨rfl, h⟩
    replace ka := p2_keep h ka
    replace kb := p2_keep h kb
    replace kc := p2_keep h kc
    replace kd := p2_keep h kd
    replace hw := b_next hw h; clear h
    go_wp2_with fail
    go_ret
    exact ⟨retb rfl, hw⟩
theorem walk (a_x : Int) (a_y : Int) (b_x : Int) (b_y : Int) (c_x : Int) (c_y : Int) (d_x : Int) (d_y : Int) (W : World) (h_a_x : -9223372036854775808 ≤ a_x ∧ a_x ≤ 9223372036854775807) (h_a_y : -9223372036854775808 ≤ a_y ∧ a_y ≤ 9223372036854775807) (h_b_x : -9223372036854775808 ≤ b_x ∧ b_x ≤ 9223372036854775807) (h_b_y : -9223372036854775808 ≤ b_y ∧ b_y ≤ 9223372036854775807) (h_c_x : -9223372036854775808 ≤ c_x ∧ c_x ≤ 9223372036854775807) (h_c_y : -9223372036854775808 ≤ c_y ∧ c_y ≤ 9223372036854775807) (h_d_x : -9223372036854775808 ≤ d_x ∧ d_x ≤ 9223372036854775807) (h_d_y : -9223372036854775808 ≤ d_y ∧ d_y ≤ 9223372036854775807) :
    Calls Try.prog 3 #[.agg #[.int .i64 a_x, .int .i64 a_y], .agg #[.int .i64 b_x, .int .i64 b_y], .agg #[.int .i64 c_x, .int .i64 c_y], .agg #[.int .i64 d_x, .int .i64 d_y]] W fun e w' => e = .returned (.bool true) ∧ Below W.heap.size W w' := by
  by_cases hg : good a_x a_y ∧ good b_x b_y ∧ good c_x c_y ∧ good d_x d_y
  · have N : Hid (N4 (px4 a_x b_x c_x d_x) (px4 a_y b_y c_y d_y) true) := Lib.hid fun b w hb hx hy => by
      have c := near (px4 a_x b_x c_x d_x) (px4 a_y b_y c_y d_y) 4 b w (by omega) hb hx hy
      have e : allGood (px4 a_x b_x c_x d_x) (px4 a_y b_y c_y d_y) 4 = true := by
        simp only [allGood, px4]; simp [goodB_iff.2 hg.1, goodB_iff.2 hg.2.1, goodB_iff.2 hg.2.2.1, goodB_iff.2 hg.2.2.2]
      rw [e] at c; exact c
    obtain ⟨ga, gb, gc, gd⟩ := hg
    have C1 := fun w => commonC a_x a_y b_x b_y c_x c_y d_x d_y w ⟨⟨by omega, by omega⟩, ⟨by omega, by omega⟩, ⟨by omega, by omega⟩, ⟨by omega, by omega⟩, ⟨by omega, by omega⟩, ⟨by omega, by omega⟩, ⟨by omega, by omega⟩, ⟨by omega, by omega⟩⟩
    have C2 := fun w => commonC c_x c_y d_x d_y a_x a_y b_x b_y w ⟨⟨by omega, by omega⟩, ⟨by omega, by omega⟩, ⟨by omega, by omega⟩, ⟨by omega, by omega⟩, ⟨by omega, by omega⟩, ⟨by omega, by omega⟩, ⟨by omega, by omega⟩, ⟨by omega, by omega⟩⟩
    have C3 := fun w => commonC b_x b_y a_x a_y d_x d_y c_x c_y w ⟨⟨by omega, by omega⟩, ⟨by omega, by omega⟩, ⟨by omega, by omega⟩, ⟨by omega, by omega⟩, ⟨by omega, by omega⟩, ⟨by omega, by omega⟩, ⟨by omega, by omega⟩, ⟨by omega, by omega⟩⟩
    have C4 := fun w => commonC a_x a_y b_x b_y a_x a_y c_x c_y w ⟨⟨by omega, by omega⟩, ⟨by omega, by omega⟩, ⟨by omega, by omega⟩, ⟨by omega, by omega⟩, ⟨by omega, by omega⟩, ⟨by omega, by omega⟩, ⟨by omega, by omega⟩, ⟨by omega, by omega⟩⟩
    rw [common_sym] at C2; rw [common_swap] at C3; rw [common_same] at C4
    exact close _ _ _ _ _ _ _ _ _ W N (Lib.hid C1) (Lib.hid C2) (Lib.hid C3) (Lib.hid C4)
  · refine far _ _ _ _ _ _ _ _ W (Lib.hid fun b w hb hx hy => ?_)
    have c := near (px4 a_x b_x c_x d_x) (px4 a_y b_y c_y d_y) 4 b w (by omega) hb hx hy
    have e : allGood (px4 a_x b_x c_x d_x) (px4 a_y b_y c_y d_y) 4 = false := by
      simp only [allGood, px4]
      rw [← goodB_iff, ← goodB_iff, ← goodB_iff, ← goodB_iff] at hg
      cases h1 : goodB a_x a_y <;> cases h2 : goodB b_x b_y <;> cases h3 : goodB c_x c_y <;> cases h4 : goodB d_x d_y <;> simp_all
    rw [e] at c; exact c
-- FRAME --

set_option maxRecDepth 100000 in
theorem lifted (os : Os) (started : os.Started) (H : Type) (enc : TypeId × Value → H) :
    ReturnsInHanded {} Try.checked os 3 .any (Rows.polygonCommonSpec.pre6 enc Try.prog Try.f3 Rows.polygonCommonRow.domain false) (Rows.polygonCommonSpec.post enc Try.prog Try.f3 false true false false) :=
  Frame.lifted (C := Try.checked) 3 Try.f3 Try.own started (by kernel_rfl) Try.func3 Try.laidOut rfl (by kernel_rfl) 4 rfl Try.underlying4
      (fun ds h => by match ds, h with | [_, _, _, _], _ => rfl)
      (ChangeSpec.witness6 (enc := enc) (C := Try.checked) false ⟨#[], #[.agg #[.int .i64 0, .int .i64 0], .agg #[.int .i64 0, .int .i64 0], .agg #[.int .i64 0, .int .i64 0], .agg #[.int .i64 0, .int .i64 0]], []⟩ 8 (by kernel_rfl) (by kernel_rfl) (by kernel_rfl) (by kernel_rfl))
      (fun W base args ds ps hval0 hA _ => by
        have hval : ∀ (j : Nat) t v, Try.f3.params[j]? = some t → args[j]? = some v → Value.okWide Try.prog W .any base t v := hval0
        have hA' : DataW.TrodAll enc Try.prog W 0 (fun _ => true) true Try.f3.params.toList args.toList ds ps := hA
        clear hval0 hA
        have hA := hA'
        clear hA'
        rw [Try.params3] at hA hval
        obtain ⟨v0, vs0, d0, ds0, p0, q0, ea, rfl, rfl, tr0, rest0⟩ := trodAll_cons hA
        obtain ⟨v1, vs1, d1, ds1, p1, q1, rfl, rfl, rfl, tr1, rest1⟩ := trodAll_cons rest0
        obtain ⟨v2, vs2, d2, ds2, p2, q2, rfl, rfl, rfl, tr2, rest2⟩ := trodAll_cons rest1
        obtain ⟨v3, vs3, d3, ds3, p3, q3, rfl, rfl, rfl, tr3, rest3⟩ := trodAll_cons rest2
        obtain ⟨rfl, rfl, rfl⟩ := trodAll_nil rest3
        obtain rfl : args = #[v0, v1, v2, v3] := by cases args; simp_all
        clear ea
        obtain ⟨cs_a, e_a, hl_a, hc_a⟩ := Frame.arg_agg Try.underlying23 (k := 8) (ks := [.int, .int]) (by kernel_rfl) (hval 0 _ v0 rfl rfl) tr0
        subst e_a
        obtain ⟨c_a_x, c_a_y, rfl⟩ : ∃ c_a_x c_a_y, cs_a = [c_a_x, c_a_y] := by match cs_a, hl_a with | [x0, x1], _ => exact ⟨x0, x1, rfl⟩
        have o_a_x : Frame.Okc W (.int) c_a_x := hc_a 0 (by decide) (by simp)
        obtain ⟨a_x, e_a_x, w_a_x⟩ := o_a_x.int_inv; subst e_a_x
        have o_a_y : Frame.Okc W (.int) c_a_y := hc_a 1 (by decide) (by simp)
        obtain ⟨a_y, e_a_y, w_a_y⟩ := o_a_y.int_inv; subst e_a_y
        obtain ⟨cs_b, e_b, hl_b, hc_b⟩ := Frame.arg_agg Try.underlying23 (k := 8) (ks := [.int, .int]) (by kernel_rfl) (hval 1 _ v1 rfl rfl) tr1
        subst e_b
        obtain ⟨c_b_x, c_b_y, rfl⟩ : ∃ c_b_x c_b_y, cs_b = [c_b_x, c_b_y] := by match cs_b, hl_b with | [x0, x1], _ => exact ⟨x0, x1, rfl⟩
        have o_b_x : Frame.Okc W (.int) c_b_x := hc_b 0 (by decide) (by simp)
        obtain ⟨b_x, e_b_x, w_b_x⟩ := o_b_x.int_inv; subst e_b_x
        have o_b_y : Frame.Okc W (.int) c_b_y := hc_b 1 (by decide) (by simp)
        obtain ⟨b_y, e_b_y, w_b_y⟩ := o_b_y.int_inv; subst e_b_y
        obtain ⟨cs_c, e_c, hl_c, hc_c⟩ := Frame.arg_agg Try.underlying23 (k := 8) (ks := [.int, .int]) (by kernel_rfl) (hval 2 _ v2 rfl rfl) tr2
        subst e_c
        obtain ⟨c_c_x, c_c_y, rfl⟩ : ∃ c_c_x c_c_y, cs_c = [c_c_x, c_c_y] := by match cs_c, hl_c with | [x0, x1], _ => exact ⟨x0, x1, rfl⟩
        have o_c_x : Frame.Okc W (.int) c_c_x := hc_c 0 (by decide) (by simp)
        obtain ⟨c_x, e_c_x, w_c_x⟩ := o_c_x.int_inv; subst e_c_x
        have o_c_y : Frame.Okc W (.int) c_c_y := hc_c 1 (by decide) (by simp)
        obtain ⟨c_y, e_c_y, w_c_y⟩ := o_c_y.int_inv; subst e_c_y
        obtain ⟨cs_d, e_d, hl_d, hc_d⟩ := Frame.arg_agg Try.underlying23 (k := 8) (ks := [.int, .int]) (by kernel_rfl) (hval 3 _ v3 rfl rfl) tr3
        subst e_d
        obtain ⟨c_d_x, c_d_y, rfl⟩ : ∃ c_d_x c_d_y, cs_d = [c_d_x, c_d_y] := by match cs_d, hl_d with | [x0, x1], _ => exact ⟨x0, x1, rfl⟩
        have o_d_x : Frame.Okc W (.int) c_d_x := hc_d 0 (by decide) (by simp)
        obtain ⟨d_x, e_d_x, w_d_x⟩ := o_d_x.int_inv; subst e_d_x
        have o_d_y : Frame.Okc W (.int) c_d_y := hc_d 1 (by decide) (by simp)
        obtain ⟨d_y, e_d_y, w_d_y⟩ := o_d_y.int_inv; subst e_d_y
        exact walk a_x a_y b_x b_y c_x c_y d_x d_y W w_a_x w_a_y w_b_x w_b_y w_c_x w_c_y w_d_x w_d_y)

/-- The statement. -/
theorem proved : Rows.PolygonCommonSaid :=
  OpenClaim.holds_of_wide 3 Try.f3 rfl rfl rfl rfl rfl rfl rfl ⟨rfl, rfl, rfl, rfl, rfl⟩ rfl rfl rfl rfl rfl (by kernel_rfl) Try.func3 (by kernel_rfl)
    (of_decide_eq_true (by kernel_rfl)) (by unfold Func.isWrapper; first | (rw [if_pos (by decide +kernel)]; kernel_rfl) | (rw [if_neg (by decide +kernel)]; exact ⟨rfl, rfl⟩))
    (fun os started H enc _ => lifted os started H enc)
#print axioms proved
end PolygonCommon
end Go.Proofs.Ytlgdcpkjobbnnaa

