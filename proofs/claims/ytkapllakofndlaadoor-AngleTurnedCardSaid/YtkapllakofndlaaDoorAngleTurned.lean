/- AngleTurned: a vector that is turned by a right angle has the angle that is turned likewise. For every input, where math's tables read as Go's library lays them. -/
import Derived.Test.YtkapllakofndlaaDoorOfC
import Derived.Test.YtkapllakofndlaaDoorDoorA
import Derived.Test.YtkapllakofndlaaDoorShapes
import Derived.Test.YtkapllakofndlaaDoorCards
namespace Go.Proofs.YtkapllakofndlaaDoor
open Go.RowKit Go.ChangeShapes Go.WideShapes
namespace AngleTurned
open Kit Ang
abbrev OfC (x y r e : Int) (w : World) : Prop := ∀ w1, Below w.heap.size w w1 → Calls Tryd.prog 18 #[.agg #[.int .i64 x, .int .i64 y]] w1 fun ed w' => ed = .returned (.tuple #[.int .i64 r, .int .i64 e]) ∧ Below w1.heap.size w1 w'
set_option maxRecDepth 100000 in
set_option maxHeartbeats 1000000 in
theorem bad (x y E : Int) (w : World) (T : Hid (Tabs w)) (O1 : Hid (OfC x y 0 E w)) (O2 : Hid (OfC y (wrap64 (-x)) 0 E w)) (_hE1 : (E == 0) = false) (hE2 : (E != 0) = true) :
    Calls Tryd.prog 6 #[.agg #[.int .i64 x, .int .i64 y]] w fun e w' => e = .returned (.bool true) ∧ Below w.heap.size w w' := by
  have W0 := Lib.hid (b_alloc (Below.refl w.heap.size w) (.cells #[.int .i64 x, .int .i64 y] 28))
  have P0 := Lib.hid (p2_new w 28 x y)
  obtain ⟨w0, hw0⟩ : ∃ w0, w0 = w.alloc (.cells #[.int .i64 x, .int .i64 y] 28) := ⟨_, rfl⟩
  rw [← hw0] at W0 P0
  have HW := Lib.hid hw0; clear hw0
  have WK := Lib.hid (works w0 (tabs_keep W0.out T.out))
  have ee : (E == E) = true := by simp
  go_enter Tryd.func6, Tryd.ntmps6
  go_wp2_with fail
  rw [← HW.out]
  (with_reducible refine WK.out.mono ?_); rintro e v1 ⟨rfl, rfl⟩
  obtain ⟨p0, p1⟩ := P0.out
  go_wp2_with fail
  (with_reducible refine (O1.out _ W0.out).mono ?_); rintro e v2 ⟨rfl, hb⟩
  have W2 := Lib.hid (b_next W0.out hb); have P2' := Lib.hid (p2_keep hb P0.out); clear hb p0 p1
  obtain ⟨p0, p1⟩ := P2'.out
  go_wp2_with fail
  (with_reducible refine (O2.out _ W2.out).mono ?_); rintro e v3 ⟨rfl, hb⟩
  have W3 := Lib.hid (b_next W2.out hb); have P3' := Lib.hid (p2_keep hb P2'.out); clear hb p0 p1
  obtain ⟨p0, p1⟩ := P3'.out
  go_wp2_with fail
  all_goals (go_ret; exact ⟨by first | rfl | exact retb rfl | exact retb (by simp), W3.out⟩)
set_option maxRecDepth 100000 in
set_option maxHeartbeats 1000000 in
theorem ok (x y r s : Int) (w : World) (T : Hid (Tabs w)) (O1 : Hid (OfC x y r 0 w)) (O2 : Hid (OfC y (wrap64 (-x)) s 0 w)) (HN : Hid (wrap64 (r + 1024) % 4096 = s)) :
    Calls Tryd.prog 6 #[.agg #[.int .i64 x, .int .i64 y]] w fun e w' => e = .returned (.bool true) ∧ Below w.heap.size w w' := by
  have W0 := Lib.hid (b_alloc (Below.refl w.heap.size w) (.cells #[.int .i64 x, .int .i64 y] 28))
  have P0 := Lib.hid (p2_new w 28 x y)
  obtain ⟨w0, hw0⟩ : ∃ w0, w0 = w.alloc (.cells #[.int .i64 x, .int .i64 y] 28) := ⟨_, rfl⟩
  rw [← hw0] at W0 P0
  have HW := Lib.hid hw0; clear hw0
  have WK := Lib.hid (works w0 (tabs_keep W0.out T.out))
  have ee : (s == s) = true := by simp
  have NC : Hid (∀ w, Calls Tryd.prog 16 #[.int .i64 (wrap64 (r + 1024))] w fun e w' => e = .returned (.int .i64 s) ∧ w = w') := Lib.hid fun w => by
    have c := norm_w (wrap64 (r + 1024)) w
    rw [HN.out] at c; exact c
  go_enter Tryd.func6, Tryd.ntmps6
  go_wp2_with fail
  rw [← HW.out]
  (with_reducible refine WK.out.mono ?_); rintro e v1 ⟨rfl, rfl⟩
  obtain ⟨p0, p1⟩ := P0.out
  go_wp2_with fail
  (with_reducible refine (O1.out _ W0.out).mono ?_); rintro e v2 ⟨rfl, hb⟩
  have W2 := Lib.hid (b_next W0.out hb); have P2' := Lib.hid (p2_keep hb P0.out); clear hb p0 p1
  obtain ⟨p0, p1⟩ := P2'.out
  go_wp2_with fail
  (with_reducible refine (O2.out _ W2.out).mono ?_); rintro e v3 ⟨rfl, hb⟩
  have W3 := Lib.hid (b_next W2.out hb); clear hb p0 p1
  go_wp2_with fail
  (with_reducible refine (NC.out _).mono ?_); rintro e v4 ⟨rfl, rfl⟩
  go_wp2_with fail
  go_ret
  exact ⟨by first | rfl | exact retb rfl | exact retb (by simp), W3.out⟩
theorem walk (v_x : Int) (v_y : Int) (W : World) (hL : laidMetH Tryd.prog Door.laid W) (h_v_x : -9223372036854775808 ≤ v_x ∧ v_x ≤ 9223372036854775807) (h_v_y : -9223372036854775808 ≤ v_y ∧ v_y ≤ 9223372036854775807) :
    Calls Tryd.prog 6 #[.agg #[.int .i64 v_x, .int .i64 v_y]] W fun e w' => e = .returned (.bool true) ∧ Below W.heap.size W w' := by
  have T := Door.tabs_of hL
  by_cases hr : InR v_x ∧ InR v_y
  · have hw : wrap64 (-v_x) = -v_x := by unfold wrap64; omega
    by_cases hz : v_x = 0 ∧ v_y = 0
    · obtain ⟨rfl, rfl⟩ := hz
      exact bad 0 0 10 W (Lib.hid T) (Lib.hid fun w1 hb => of_zero w1) (Lib.hid fun w1 hb => by rw [hw]; exact of_zero w1) (by decide) (by decide)
    · obtain ⟨r, hR⟩ := ofv_some hz
      have hS := ofv_turn hR
      exact ok v_x v_y r _ W (Lib.hid T) (Lib.hid fun w1 hb => of_ok v_x v_y r w1 hr.1 hr.2 hz (Lib.hid (tabs_keep hb T)) (Lib.hid hR))
        (Lib.hid fun w1 hb => by rw [hw]; exact of_ok v_y (-v_x) _ w1 hr.2 (by unfold InR at *; omega) (by omega) (Lib.hid (tabs_keep hb T)) (Lib.hid hS)) (Lib.hid (wrap_mod _))
  · exact bad v_x v_y 4 W (Lib.hid T) (Lib.hid fun w1 hb => of_far v_x v_y w1 hr) (Lib.hid fun w1 hb => of_far v_y (wrap64 (-v_x)) w1 (by unfold InR at *; unfold wrap64; omega)) (by decide) (by decide)
-- FRAME --

set_option maxRecDepth 100000 in
theorem lifted (os : Os) (started : os.Started) (H : Type) (enc : TypeId × Value → H) :
    ReturnsInHanded {} Tryd.checked os 6 .any (fun w args => (Rows.angleTurnedSpec.pre enc Tryd.prog Tryd.f6 [] false w args ∧ laidMetH Tryd.prog Door.laid w) ∧ sizedMet enc Tryd.prog Tryd.f6 (OpenSpec.ofChange Rows.angleTurnedSpec) false w args) (Rows.angleTurnedSpec.post enc Tryd.prog Tryd.f6 false true false false) :=
  Frame.lifted_laid (C := Tryd.checked) 6 Tryd.f6 Tryd.own started (by kernel_rfl) Tryd.func6 Tryd.laidOut rfl (by kernel_rfl) 4 rfl Tryd.underlying4
      (fun ds h => by match ds, h with | [_], _ => rfl)
      (ChangeSpec.witness_at (enc := enc) (C := Tryd.checked) (os := os) (X := fun w _ => laidMetH Tryd.prog Door.laid w) false (Door.laidWorld os) #[.agg #[.int .i64 0, .int .i64 0]] 8 rfl (by kernel_rfl) (by kernel_rfl) (by kernel_rfl) (by kernel_rfl) (by kernel_rfl) (Door.laidWorld_met os _))
      (fun W base args ds ps hval0 hA _ hL => by
        have hval : ∀ (j : Nat) t v, Tryd.f6.params[j]? = some t → args[j]? = some v → Value.okWide Tryd.prog W .any base t v := hval0
        have hA' : DataW.TrodAll enc Tryd.prog W 0 (fun _ => true) true Tryd.f6.params.toList args.toList ds ps := hA
        clear hval0 hA
        have hA := hA'
        clear hA'
        rw [Tryd.params6] at hA hval
        obtain ⟨v0, vs0, d0, ds0, p0, q0, ea, rfl, rfl, tr0, rest0⟩ := trodAll_cons hA
        obtain ⟨rfl, rfl, rfl⟩ := trodAll_nil rest0
        obtain rfl : args = #[v0] := by cases args; simp_all
        clear ea
        obtain ⟨cs_v, e_v, hl_v, hc_v⟩ := Frame.arg_agg Tryd.underlying28 (k := 8) (ks := [.int, .int]) (by kernel_rfl) (hval 0 _ v0 rfl rfl) tr0
        subst e_v
        obtain ⟨c_v_x, c_v_y, rfl⟩ : ∃ c_v_x c_v_y, cs_v = [c_v_x, c_v_y] := by match cs_v, hl_v with | [x0, x1], _ => exact ⟨x0, x1, rfl⟩
        have o_v_x : Frame.Okc W (.int) c_v_x := hc_v 0 (by decide) (by simp)
        obtain ⟨v_x, e_v_x, w_v_x⟩ := o_v_x.int_inv; subst e_v_x
        have o_v_y : Frame.Okc W (.int) c_v_y := hc_v 1 (by decide) (by simp)
        obtain ⟨v_y, e_v_y, w_v_y⟩ := o_v_y.int_inv; subst e_v_y
        exact walk v_x v_y W hL w_v_x w_v_y)

/-- The statement. -/
theorem row_holds : Rows.AngleTurnedSaid :=
  OpenClaim.holds_of_wide 6 Tryd.f6 rfl rfl rfl rfl rfl rfl rfl ⟨rfl, rfl, rfl, rfl, rfl⟩ rfl rfl rfl rfl rfl (by kernel_rfl) Tryd.func6 (by kernel_rfl)
    (of_decide_eq_true (by kernel_rfl)) (by unfold Func.isWrapper; first | (rw [if_pos (by decide +kernel)]; kernel_rfl) | (rw [if_neg (by decide +kernel)]; exact ⟨rfl, rfl⟩))
    (fun os started H enc _ => lifted os started H enc)
/-- The tied card. -/
theorem proved : Rows.AngleTurnedCardSaid :=
  Claim7.holds_tied_plain_at .later [] [.data, .data, .data] true (true, "6deb9ba2cff43c15501a76bdf9cd322ddee03e505f7501aaf9f3e71c3bb480ce") false
    row_holds (fun _ h => by cases h) (by kernel_rfl) (fun _ h => by cases h) angleTurned_row_tie rfl ⟨rfl, rfl⟩ (by kernel_rfl) rfl
    (fun f fn hf hfn => by
      obtain rfl : f = 6 := Option.some.inj ((show Tryd.prog.funcNamed "skyway/skywaykeep1.AngleTurned" = some 6 by kernel_rfl).symm.trans hf) |>.symm
      obtain rfl : fn = Tryd.f6 := (Option.some.inj (Tryd.func6.symm.trans hfn)).symm
      exact ⟨by kernel_rfl, fun j t ht => by
        rw [Tryd.params6] at ht
        have hall : ∀ t ∈ [28], Tryd.prog.wantsStandIn t = false := by
          intro t ht
          simp only [List.mem_cons, List.not_mem_nil, or_false] at ht
          rcases ht with rfl <;> kernel_rfl
        exact hall t (List.mem_iff_getElem?.2 ⟨j, by simpa using ht⟩)⟩)
    (by kernel_rfl)
#print axioms proved
end AngleTurned
end Go.Proofs.YtkapllakofndlaaDoor

