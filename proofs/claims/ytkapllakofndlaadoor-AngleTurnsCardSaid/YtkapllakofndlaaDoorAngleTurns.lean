/- AngleTurns: the turn from one angle to another one leads there, and is at most half a circle; the turn back is its opposite, but for half a circle. For every input, where math's tables read as Go's library lays them. -/
import Derived.Test.YtkapllakofndlaaDoorAngS
import Derived.Test.YtkapllakofndlaaDoorDoorA
import Derived.Test.YtkapllakofndlaaDoorShapes
import Derived.Test.YtkapllakofndlaaDoorCards
namespace Go.Proofs.YtkapllakofndlaaDoor
open Go.RowKit Go.ChangeShapes Go.WideShapes
namespace AngleTurns
open Kit Ang
theorem dif_bd (g h : Int) : -2048 < dif g h ∧ dif g h ≤ 2048 := by unfold dif; split <;> omega
theorem dif_to (g h : Int) : wrap64 (g + dif g h) % 4096 = h % 4096 := by rw [wrap_mod]; unfold dif; split <;> omega
theorem dif_back (g h : Int) (hne : ¬ dif g h = 2048) : dif h g = - dif g h := by
  unfold dif at *
  split <;> split at hne <;> omega
set_option maxHeartbeats 1000000 in
theorem go (g h d r : Int) (W : World) (hd : -2048 < d ∧ d ≤ 2048) (WK : Hid (Calls Tryd.prog 13 #[] W fun e w' => e = .returned (.bool true) ∧ W = w')) (D : Hid (Calls Tryd.prog 17 #[.int .i64 g, .int .i64 h] W fun e w' => e = .returned (.int .i64 d) ∧ W = w'))
    (N1 : Hid (Calls Tryd.prog 16 #[.int .i64 (wrap64 (g + d))] W fun e w' => e = .returned (.int .i64 r) ∧ W = w')) (N2 : Hid (Calls Tryd.prog 16 #[.int .i64 h] W fun e w' => e = .returned (.int .i64 r) ∧ W = w'))
    (B : Hid (¬ d = 2048 → Calls Tryd.prog 17 #[.int .i64 h, .int .i64 g] W fun e w' => e = .returned (.int .i64 (-d)) ∧ W = w')) :
    Calls Tryd.prog 5 #[.int .i64 g, .int .i64 h] W fun e w' => e = .returned (.bool true) ∧ Below W.heap.size W w' := by
  obtain ⟨d1, d2⟩ := hd
  have rr : (r == r) = true := by simp
  have dd : (-d == -d) = true := by simp
  by_cases h2 : d = 2048
  · have q1 : (d == 2048) = true := by simp [h2]
    have q2 := decide_eq_true d1
    have q3 := decide_eq_true d2
    clear h2
    go_enter Tryd.func5, Tryd.ntmps5
    go_wp2_with fail
    (with_reducible refine WK.out.mono ?_); rintro e w1 ⟨rfl, rfl⟩
    go_wp2_with fail
    (with_reducible refine D.out.mono ?_); rintro e w1 ⟨rfl, rfl⟩
    go_wp2_with fail
    (with_reducible refine N1.out.mono ?_); rintro e w1 ⟨rfl, rfl⟩
    go_wp2_with fail
    (with_reducible refine N2.out.mono ?_); rintro e w1 ⟨rfl, rfl⟩
    go_wp2_with fail
    go_ret
    exact ⟨by first | rfl | exact retb rfl, Below.refl _ _⟩
  · have q1 : (d == 2048) = false := by simp [h2]
    have B' := Lib.hid (B.out h2)
    clear h2
    go_enter Tryd.func5, Tryd.ntmps5
    go_wp2_with fail
    (with_reducible refine WK.out.mono ?_); rintro e w1 ⟨rfl, rfl⟩
    go_wp2_with fail
    (with_reducible refine D.out.mono ?_); rintro e w1 ⟨rfl, rfl⟩
    go_wp2_with fail
    (with_reducible refine N1.out.mono ?_); rintro e w1 ⟨rfl, rfl⟩
    go_wp2_with fail
    (with_reducible refine N2.out.mono ?_); rintro e w1 ⟨rfl, rfl⟩
    go_wp2_with fail
    (with_reducible refine B'.out.mono ?_); rintro e w1 ⟨rfl, rfl⟩
    go_wp2_with fail
    all_goals first | (exfalso; omega) | (go_ret; exact ⟨by first | rfl | exact retb rfl | exact retb (by simp), Below.refl _ _⟩)
theorem walk (g h : Int) (W : World) (hL : laidMetH Tryd.prog Door.laid W) (_ : -9223372036854775808 ≤ g ∧ g ≤ 9223372036854775807) (_ : -9223372036854775808 ≤ h ∧ h ≤ 9223372036854775807) :
    Calls Tryd.prog 5 #[.int .i64 g, .int .i64 h] W fun e w' => e = .returned (.bool true) ∧ Below W.heap.size W w' := by
  have N := norm_w (wrap64 (g + dif g h)) W
  rw [dif_to] at N
  exact go g h (dif g h) (h % 4096) W (dif_bd g h) (Lib.hid (works W (Door.tabs_of hL))) (Lib.hid (difC g h W)) (Lib.hid N) (Lib.hid (norm_w h W)) (Lib.hid fun hne => by
    have c := difC h g W
    rw [dif_back g h hne] at c
    exact c)
-- FRAME --

set_option maxRecDepth 100000 in
theorem lifted (os : Os) (started : os.Started) (H : Type) (enc : TypeId × Value → H) :
    ReturnsInHanded {} Tryd.checked os 5 .any (fun w args => (Rows.angleTurnsSpec.pre enc Tryd.prog Tryd.f5 [] false w args ∧ laidMetH Tryd.prog Door.laid w) ∧ sizedMet enc Tryd.prog Tryd.f5 (OpenSpec.ofChange Rows.angleTurnsSpec) false w args) (Rows.angleTurnsSpec.post enc Tryd.prog Tryd.f5 false true false false) :=
  Frame.lifted_laid (C := Tryd.checked) 5 Tryd.f5 Tryd.own started (by kernel_rfl) Tryd.func5 Tryd.laidOut rfl (by kernel_rfl) 4 rfl Tryd.underlying4
      (fun ds h => by match ds, h with | [_, _], _ => rfl)
      (ChangeSpec.witness_at (enc := enc) (C := Tryd.checked) (os := os) (X := fun w _ => laidMetH Tryd.prog Door.laid w) false (Door.laidWorld os) #[.int .i64 0, .int .i64 0] 8 rfl (by kernel_rfl) (by kernel_rfl) (by kernel_rfl) (by kernel_rfl) (by kernel_rfl) (Door.laidWorld_met os _))
      (fun W base args ds ps hval0 hA _ hL => by
        have hval : ∀ (j : Nat) t v, Tryd.f5.params[j]? = some t → args[j]? = some v → Value.okWide Tryd.prog W .any base t v := hval0
        have hA' : DataW.TrodAll enc Tryd.prog W 0 (fun _ => true) true Tryd.f5.params.toList args.toList ds ps := hA
        clear hval0 hA
        have hA := hA'
        clear hA'
        rw [Tryd.params5] at hA hval
        obtain ⟨v0, vs0, d0, ds0, p0, q0, ea, rfl, rfl, tr0, rest0⟩ := trodAll_cons hA
        obtain ⟨v1, vs1, d1, ds1, p1, q1, rfl, rfl, rfl, tr1, rest1⟩ := trodAll_cons rest0
        obtain ⟨rfl, rfl, rfl⟩ := trodAll_nil rest1
        obtain rfl : args = #[v0, v1] := by cases args; simp_all
        clear ea
        obtain ⟨g, rfl, w_g⟩ := Frame.arg_int Tryd.underlying3 (hval 0 _ v0 rfl rfl)
        obtain ⟨h, rfl, w_h⟩ := Frame.arg_int Tryd.underlying3 (hval 1 _ v1 rfl rfl)
        exact walk g h W hL (Frame.bd w_g) (Frame.bd w_h))

/-- The statement. -/
theorem row_holds : Rows.AngleTurnsSaid :=
  OpenClaim.holds_of_wide 5 Tryd.f5 rfl rfl rfl rfl rfl rfl rfl ⟨rfl, rfl, rfl, rfl, rfl⟩ rfl rfl rfl rfl rfl (by kernel_rfl) Tryd.func5 (by kernel_rfl)
    (of_decide_eq_true (by kernel_rfl)) (by unfold Func.isWrapper; first | (rw [if_pos (by decide +kernel)]; kernel_rfl) | (rw [if_neg (by decide +kernel)]; exact ⟨rfl, rfl⟩))
    (fun os started H enc _ => lifted os started H enc)
/-- The tied card. -/
theorem proved : Rows.AngleTurnsCardSaid :=
  Claim7.holds_tied_plain_at .later [] [.data, .data, .data] true (true, "6deb9ba2cff43c15501a76bdf9cd322ddee03e505f7501aaf9f3e71c3bb480ce") false
    row_holds (fun _ h => by cases h) (by kernel_rfl) (fun _ h => by cases h) angleTurns_row_tie rfl ⟨rfl, rfl⟩ (by kernel_rfl) rfl
    (fun f fn hf hfn => by
      obtain rfl : f = 5 := Option.some.inj ((show Tryd.prog.funcNamed "skyway/skywaykeep1.AngleTurns" = some 5 by kernel_rfl).symm.trans hf) |>.symm
      obtain rfl : fn = Tryd.f5 := (Option.some.inj (Tryd.func5.symm.trans hfn)).symm
      exact ⟨by kernel_rfl, fun j t ht => by
        rw [Tryd.params5] at ht
        have hall : ∀ t ∈ [3, 3], Tryd.prog.wantsStandIn t = false := by
          intro t ht
          simp only [List.mem_cons, List.not_mem_nil, or_false] at ht
          rcases ht with rfl | rfl <;> kernel_rfl
        exact hall t (List.mem_iff_getElem?.2 ⟨j, by simpa using ht⟩)⟩)
    (by kernel_rfl)
#print axioms proved
end AngleTurns
end Go.Proofs.YtkapllakofndlaaDoor

