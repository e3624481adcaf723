/- P161..: a whole number of at most 53 digits, at a scale of 0 to 60: its double gives it back. -/
import Derived.Test.YtoafljgcmloilaaDoorDoorB
import Derived.Test.YtoafljgcmloilaaDoorFwt
import Derived.Test.YtoafljgcmloilaaDoorCards
namespace Go.Proofs.YtoafljgcmloilaaDoor
open Go.RowKit Go.ChangeShapes Go.WideShapes
namespace BitsBack
open Kit Dec Tof Fw
set_option maxRecDepth 100000 in
set_option maxHeartbeats 8000000 in
/-- A number that is too great. -/
theorem walkO (n sc : Int) (W : World) (C0 : Hid (Calls Tryd.prog 7 #[] W fun e w' => e = .returned (.bool true) ∧ Below W.heap.size W w')) (h : n < -9007199254740992 ∨ 9007199254740992 < n) :
    Calls Tryd.prog 4 #[.int .i64 n, .int .i64 sc] W fun e w' => e = .returned (.bool true) ∧ Below W.heap.size W w' := by
  rcases h with h | h
  · go_enter Tryd.func4, Tryd.ntmps4
    go_wp2_with fail
    (with_reducible refine C0.out.mono ?_); rintro e w1 ⟨rfl, hb⟩
    have B1 := Lib.hid hb; clear hb
    go_wp2_with fail
    go_ret
    exact ⟨by first | rfl | exact retb rfl, B1.out⟩
  · have h2 : ¬ n < -9007199254740992 := by omega
    go_enter Tryd.func4, Tryd.ntmps4
    go_wp2_with fail
    (with_reducible refine C0.out.mono ?_); rintro e w1 ⟨rfl, hb⟩
    have B1 := Lib.hid hb; clear hb
    go_wp2_with fail
    go_ret
    exact ⟨by first | rfl | exact retb rfl, B1.out⟩
set_option maxRecDepth 100000 in
set_option maxHeartbeats 8000000 in
/-- A scale that is none. -/
theorem walkE (n sc : Int) (W : World) (C0 : Hid (Calls Tryd.prog 7 #[] W fun e w' => e = .returned (.bool true) ∧ Below W.heap.size W w')) (h1 : -9007199254740992 ≤ n) (h2 : n ≤ 9007199254740992) (h : sc < 0 ∨ 60 < sc) :
    Calls Tryd.prog 4 #[.int .i64 n, .int .i64 sc] W fun e w' => e = .returned (.bool true) ∧ Below W.heap.size W w' := by
  have C1 := Lib.hid fun w => ffx_bad n sc w h
  have k1 : ¬ n < -9007199254740992 := by omega
  have k2 : ¬ 9007199254740992 < n := by omega
  clear h
  go_enter Tryd.func4, Tryd.ntmps4
  go_wp2_with fail
  (with_reducible refine C0.out.mono ?_); rintro e w1 ⟨rfl, hb⟩
  have B1 := Lib.hid hb; clear hb
  go_wp2_with fail
  (with_reducible refine (C1.out _).mono ?_); rintro e w2 ⟨rfl, rfl⟩
  go_wp2_with fail
  go_ret
  exact ⟨by first | rfl | exact retb rfl, B1.out⟩
set_option maxRecDepth 100000 in
set_option maxHeartbeats 8000000 in
theorem walkI (n : Int) (sc X : Nat) (W : World) (C0 : Hid (Calls Tryd.prog 7 #[] W fun e w' => e = .returned (.bool true) ∧ Below W.heap.size W w')) (h1 : -9007199254740992 ≤ n) (h2 : n ≤ 9007199254740992)
    (C1 : Hid (∀ w, Calls Tryd.prog 9 #[.int .i64 n, .int .i64 (sc : Nat)] w fun e w' => e = .returned (.tuple #[.int .u64 (X : Nat), .int .i64 0]) ∧ w = w'))
    (C2 : Hid (∀ w, Calls Tryd.prog 8 #[.int .u64 (X : Nat), .int .i64 (sc : Nat)] w fun e w' => e = .returned (.tuple #[.int .i64 n, .bool true, .int .i64 0]) ∧ w = w')) :
    Calls Tryd.prog 4 #[.int .i64 n, .int .i64 (sc : Nat)] W fun e w' => e = .returned (.bool true) ∧ Below W.heap.size W w' := by
  have k1 : ¬ n < -9007199254740992 := by omega
  have k2 : ¬ 9007199254740992 < n := by omega
  go_enter Tryd.func4, Tryd.ntmps4
  go_wp2_with fail
  (with_reducible refine C0.out.mono ?_); rintro e w1 ⟨rfl, hb⟩
  have B1 := Lib.hid hb; clear hb
  go_wp2_with fail
  (with_reducible refine (C1.out _).mono ?_); rintro e w2 ⟨rfl, rfl⟩
  go_wp2_with fail
  (with_reducible refine (C2.out _).mono ?_); rintro e w2 ⟨rfl, rfl⟩
  go_wp2_with fail
  go_ret
  exact ⟨by first | rfl | exact retb rfl, B1.out⟩
/-- For every number, for every scale. -/
theorem walk (n sc : Int) (W : World) (hL : laidMetH Tryd.prog DoorB.laid W ∧ W.ShapedOpen Tryd.prog) (_ : -9223372036854775808 ≤ n ∧ n ≤ 9223372036854775807) (_ : -9223372036854775808 ≤ sc ∧ sc ≤ 9223372036854775807) :
    Calls Tryd.prog 4 #[.int .i64 n, .int .i64 sc] W fun e w' => e = .returned (.bool true) ∧ Below W.heap.size W w' := by
  have V := DoorB.vars_of hL
  have C0 := Lib.hid (Txt.bitsWorks W V)
  by_cases ho : n < -9007199254740992 ∨ 9007199254740992 < n
  · exact walkO n sc W C0 ho
  by_cases he : sc < 0 ∨ 60 < sc
  · exact walkE n sc W C0 (by omega) (by omega) he
  obtain ⟨s, rfl⟩ := Int.eq_ofNat_of_zero_le (show 0 ≤ sc by omega)
  refine walkI n s (fx n s) W C0 (by omega) (by omega) (Lib.hid fun w => ffx_w n s w (by omega) (by omega) (by omega)) (Lib.hid fun w => ?_)
  have q := tof_w (fx n s) (s : Nat) w (fx_lt (by omega) (by omega)) (by omega) (by omega)
  rw [back (by omega) (by omega) (by omega)] at q
  exact q
-- FRAME --

set_option maxRecDepth 100000 in
theorem lifted (os : Os) (started : os.Started) (H : Type) (enc : TypeId × Value → H) :
    ReturnsInHanded {} Tryd.checked os 4 .any (fun w args => (Rows.bitsBackSpec.pre enc Tryd.prog Tryd.f4 [] false w args ∧ laidMetH Tryd.prog DoorB.laid w) ∧ sizedMet enc Tryd.prog Tryd.f4 (OpenSpec.ofChange Rows.bitsBackSpec) false w args) (Rows.bitsBackSpec.post enc Tryd.prog Tryd.f4 false true false false) :=
  Frame.lifted_open (C := Tryd.checked) 4 Tryd.f4 Tryd.own started (by kernel_rfl) Tryd.func4 Tryd.laidOut rfl (by kernel_rfl) 4 rfl Tryd.underlying4
      (fun ds h => by match ds, h with | [_, _], _ => rfl)
      (ChangeSpec.witness_shaped (enc := enc) (C := Tryd.checked) (os := os) (X := fun w _ => laidMetH Tryd.prog DoorB.laid w) false (DoorB.laidWorld os) #[.int .i64 0, .int .i64 0] 8 (World.laidAll_os _ _ _) (DoorB.laidWorld_shaped os _) (by kernel_rfl) (by kernel_rfl) (by kernel_rfl) (DoorB.laidWorld_met os _))
      (fun W base args ds ps hval0 hA _ hL => by
        have hval : ∀ (j : Nat) t v, Tryd.f4.params[j]? = some t → args[j]? = some v → Value.okWide Tryd.prog W .any base t v := hval0
        have hA' : DataW.TrodAll enc Tryd.prog W 0 (fun _ => true) true Tryd.f4.params.toList args.toList ds ps := hA
        clear hval0 hA
        have hA := hA'
        clear hA'
        rw [Tryd.params4] at hA hval
        obtain ⟨v0, vs0, d0, ds0, p0, q0, ea, rfl, rfl, tr0, rest0⟩ := trodAll_cons hA
        obtain ⟨v1, vs1, d1, ds1, p1, q1, rfl, rfl, rfl, tr1, rest1⟩ := trodAll_cons rest0
        obtain ⟨rfl, rfl, rfl⟩ := trodAll_nil rest1
        obtain rfl : args = #[v0, v1] := by cases args; simp_all
        clear ea
        obtain ⟨n, rfl, w_n⟩ := Frame.arg_int Tryd.underlying3 (hval 0 _ v0 rfl rfl)
        obtain ⟨sc, rfl, w_sc⟩ := Frame.arg_int Tryd.underlying3 (hval 1 _ v1 rfl rfl)
        exact walk n sc W hL (Frame.bd w_n) (Frame.bd w_sc))

/-- The statement. -/
theorem row_holds : Rows.BitsBackSaid :=
  OpenClaim.holds_of_wide 4 Tryd.f4 rfl rfl rfl rfl rfl rfl rfl ⟨rfl, rfl, rfl, rfl, rfl⟩ rfl rfl rfl rfl rfl (by kernel_rfl) Tryd.func4 (by kernel_rfl)
    (of_decide_eq_true (by kernel_rfl)) (by unfold Func.isWrapper; first | (rw [if_pos (by decide +kernel)]; kernel_rfl) | (rw [if_neg (by decide +kernel)]; exact ⟨rfl, rfl⟩))
    (fun os started H enc _ => lifted os started H enc)
/-- The tied card. -/
theorem proved : Rows.BitsBackCardSaid :=
  Claim7.holds_tied_plain_at .later [] [.data, .data, .data, .data, .data, .pinned, .pinned, .pinned] true (true, "bcc143c9c6f8b1f314f711a20aa0baf16be0bfafa76d6d1d223097afee771353") false
    row_holds (fun _ h => by cases h) (by kernel_rfl) (fun _ h => by cases h) bitsBack_row_tie rfl ⟨rfl, rfl⟩ (by kernel_rfl) rfl
    (fun f fn hf hfn => by
      obtain rfl : f = 4 := Option.some.inj ((show Tryd.prog.funcNamed "skyway/skywaykeep1.BitsBack" = some 4 by kernel_rfl).symm.trans hf) |>.symm
      obtain rfl : fn = Tryd.f4 := (Option.some.inj (Tryd.func4.symm.trans hfn)).symm
      exact ⟨by kernel_rfl, fun j t ht => by
        rw [Tryd.params4] at ht
        have hall : ∀ t ∈ [3, 3], Tryd.prog.wantsStandIn t = false := by
          intro t ht
          simp only [List.mem_cons, List.not_mem_nil, or_false] at ht
          rcases ht with rfl | rfl <;> kernel_rfl
        exact hall t (List.mem_iff_getElem?.2 ⟨j, by simpa using ht⟩)⟩)
    (by kernel_rfl)
#print axioms proved
end BitsBack
end Go.Proofs.YtoafljgcmloilaaDoor

