/- P161..: whole numbers over one power of two: their doubles stand as the numbers do. For every two numbers, for every scale. -/
import Derived.Test.YtoafljgcmloilaaDoorDoorB
import Derived.Test.YtoafljgcmloilaaDoorFwl
import Derived.Test.YtoafljgcmloilaaDoorCards
namespace Go.Proofs.YtoafljgcmloilaaDoor
open Go.RowKit Go.ChangeShapes Go.WideShapes
namespace BitsOrder
open Kit Dec Tof Fw
set_option maxRecDepth 100000 in
set_option maxHeartbeats 8000000 in
/-- A number that is too great. -/
theorem walkO (n m sc : Int) (W : World) (C0 : Hid (Calls Tryd.prog 7 #[] W fun e w' => e = .returned (.bool true) ∧ Below W.heap.size W w')) (c1 c2 c3 c4 : Bool)
    (k1 : decide (n < -9007199254740992) = c1) (k2 : decide (9007199254740992 < n) = c2) (k3 : decide (m < -9007199254740992) = c3) (k4 : decide (9007199254740992 < m) = c4)
    (h : c1 = true ∨ c1 = false ∧ c2 = true ∨ c1 = false ∧ c2 = false ∧ c3 = true ∨ c1 = false ∧ c2 = false ∧ c3 = false ∧ c4 = true) :
    Calls Tryd.prog 6 #[.int .i64 n, .int .i64 m, .int .i64 sc] W fun e w' => e = .returned (.bool true) ∧ Below W.heap.size W w' := by
  rcases h with rfl | ⟨rfl, rfl⟩ | ⟨rfl, rfl, rfl⟩ | ⟨rfl, rfl, rfl, rfl⟩
  all_goals
    simp only [decide_eq_true_eq, decide_eq_false_iff_not] at k1 k2 k3 k4
    go_enter Tryd.func6, Tryd.ntmps6
    go_wp2_with fail
    (with_reducible refine C0.out.mono ?_); rintro e w1 ⟨rfl, hb⟩
    have B1 := Lib.hid hb; clear hb
    go_wp2_with fail
    go_ret
    exact ⟨by first | rfl | exact retb rfl, B1.out⟩
set_option maxRecDepth 100000 in
set_option maxHeartbeats 8000000 in
/-- A scale that is none. -/
theorem walkE (n m sc : Int) (W : World) (C0 : Hid (Calls Tryd.prog 7 #[] W fun e w' => e = .returned (.bool true) ∧ Below W.heap.size W w')) (k1 : ¬ n < -9007199254740992) (k2 : ¬ 9007199254740992 < n) (k3 : ¬ m < -9007199254740992) (k4 : ¬ 9007199254740992 < m) (h : sc < 0 ∨ 60 < sc) :
    Calls Tryd.prog 6 #[.int .i64 n, .int .i64 m, .int .i64 sc] W fun e w' => e = .returned (.bool true) ∧ Below W.heap.size W w' := by
  have C1 := Lib.hid fun w => ffx_bad n sc w h
  have C2 := Lib.hid fun w => ffx_bad m sc w h
  clear h
  go_enter Tryd.func6, Tryd.ntmps6
  go_wp2_with fail
  (with_reducible refine C0.out.mono ?_); rintro e w1 ⟨rfl, hb⟩
  have B1 := Lib.hid hb; clear hb
  go_wp2_with fail
  (with_reducible refine (C1.out _).mono ?_); rintro e w2 ⟨rfl, rfl⟩
  go_wp2_with fail
  (with_reducible refine (C2.out _).mono ?_); rintro e w2 ⟨rfl, rfl⟩
  go_wp2_with fail
  go_ret
  exact ⟨by first | rfl | exact retb rfl, B1.out⟩
set_option maxRecDepth 100000 in
set_option maxHeartbeats 8000000 in
theorem walkI (n m : Int) (sc X Y : Nat) (o1 o2 : Bool) (W : World) (C0 : Hid (Calls Tryd.prog 7 #[] W fun e w' => e = .returned (.bool true) ∧ Below W.heap.size W w')) (k1 : ¬ n < -9007199254740992) (k2 : ¬ 9007199254740992 < n) (k3 : ¬ m < -9007199254740992) (k4 : ¬ 9007199254740992 < m)
    (C1 : Hid (∀ w, Calls Tryd.prog 9 #[.int .i64 n, .int .i64 (sc : Nat)] w fun e w' => e = .returned (.tuple #[.int .u64 (X : Nat), .int .i64 0]) ∧ w = w'))
    (C2 : Hid (∀ w, Calls Tryd.prog 9 #[.int .i64 m, .int .i64 (sc : Nat)] w fun e w' => e = .returned (.tuple #[.int .u64 (Y : Nat), .int .i64 0]) ∧ w = w'))
    (L1 : Hid (∀ w, Calls Tryd.prog 11 #[.int .u64 (X : Nat), .int .u64 (Y : Nat)] w fun e w' => e = .returned (.tuple #[.bool o1, .int .i64 0]) ∧ Below w.heap.size w w'))
    (L2 : Hid (∀ w, Calls Tryd.prog 11 #[.int .u64 (Y : Nat), .int .u64 (X : Nat)] w fun e w' => e = .returned (.tuple #[.bool o2, .int .i64 0]) ∧ Below w.heap.size w w'))
    (ho : o1 = true ∧ o2 = false ∧ n < m ∨ o1 = false ∧ o2 = true ∧ m < n ∨ o1 = false ∧ o2 = false ∧ n = m) :
    Calls Tryd.prog 6 #[.int .i64 n, .int .i64 m, .int .i64 (sc : Nat)] W fun e w' => e = .returned (.bool true) ∧ Below W.heap.size W w' := by
  rcases ho with ⟨rfl, rfl, ho⟩ | ⟨rfl, rfl, ho⟩ | ⟨rfl, rfl, rfl⟩
  · have ho2 : decide (m < n) = false := decide_eq_false (by omega)
    go_enter Tryd.func6, Tryd.ntmps6
    go_wp2_with fail
    (with_reducible refine C0.out.mono ?_); rintro e w1 ⟨rfl, hb⟩
    have B1 := Lib.hid hb; clear hb
    go_wp2_with fail
    (with_reducible refine (C1.out _).mono ?_); rintro e w2 ⟨rfl, rfl⟩
    go_wp2_with fail
    (with_reducible refine (C2.out _).mono ?_); rintro e w2 ⟨rfl, rfl⟩
    go_wp2_with fail
    (with_reducible refine (L1.out _).mono ?_); rintro e w2 ⟨rfl, hb⟩
    have B2 := Lib.hid (b_next B1.out hb); clear hb
    go_wp2_with fail
    (with_reducible refine (L2.out _).mono ?_); rintro e w3 ⟨rfl, hb⟩
    have B3 := Lib.hid (b_next B2.out hb); clear hb
    go_wp2_with fail
    go_ret
    exact ⟨by first | rfl | exact retb rfl, B3.out⟩
  · have ho2 : decide (n < m) = false := decide_eq_false (by omega)
    go_enter Tryd.func6, Tryd.ntmps6
    go_wp2_with fail
    (with_reducible refine C0.out.mono ?_); rintro e w1 ⟨rfl, hb⟩
    have B1 := Lib.hid hb; clear hb
    go_wp2_with fail
    (with_reducible refine (C1.out _).mono ?_); rintro e w2 ⟨rfl, rfl⟩
    go_wp2_with fail
    (with_reducible refine (C2.out _).mono ?_); rintro e w2 ⟨rfl, rfl⟩
    go_wp2_with fail
    (with_reducible refine (L1.out _).mono ?_); rintro e w2 ⟨rfl, hb⟩
    have B2 := Lib.hid (b_next B1.out hb); clear hb
    go_wp2_with fail
    (with_reducible refine (L2.out _).mono ?_); rintro e w3 ⟨rfl, hb⟩
    have B3 := Lib.hid (b_next B2.out hb); clear hb
    go_wp2_with fail
    go_ret
    exact ⟨by first | rfl | exact retb rfl, B3.out⟩
  · have ho2 : decide (n < n) = false := decide_eq_false (by omega)
    clear k3 k4
    go_enter Tryd.func6, Tryd.ntmps6
    go_wp2_with fail
    (with_reducible refine C0.out.mono ?_); rintro e w1 ⟨rfl, hb⟩
    have B1 := Lib.hid hb; clear hb
    go_wp2_with fail
    (with_reducible refine (C1.out _).mono ?_); rintro e w2 ⟨rfl, rfl⟩
    go_wp2_with fail
    (with_reducible refine (C2.out _).mono ?_); rintro e w2 ⟨rfl, rfl⟩
    go_wp2_with fail
    (with_reducible refine (L1.out _).mono ?_); rintro e w2 ⟨rfl, hb⟩
    have B2 := Lib.hid (b_next B1.out hb); clear hb
    go_wp2_with fail
    (with_reducible refine (L2.out _).mono ?_); rintro e w3 ⟨rfl, hb⟩
    have B3 := Lib.hid (b_next B2.out hb); clear hb
    go_wp2_with fail
    go_ret
    exact ⟨by first | rfl | exact retb rfl, B3.out⟩
/-- For every two numbers, for every scale. -/
theorem walk (n m sc : Int) (W : World) (hL : laidMetH Tryd.prog DoorB.laid W ∧ W.ShapedOpen Tryd.prog) (_ : -9223372036854775808 ≤ n ∧ n ≤ 9223372036854775807) (_ : -9223372036854775808 ≤ m ∧ m ≤ 9223372036854775807) (_ : -9223372036854775808 ≤ sc ∧ sc ≤ 9223372036854775807) :
    Calls Tryd.prog 6 #[.int .i64 n, .int .i64 m, .int .i64 sc] W fun e w' => e = .returned (.bool true) ∧ Below W.heap.size W w' := by
  have V := DoorB.vars_of hL
  have C0 := Lib.hid (Txt.bitsWorks W V)
  by_cases h1 : n < -9007199254740992
  · exact walkO n m sc W C0 _ _ _ _ rfl rfl rfl rfl (Or.inl (decide_eq_true h1))
  by_cases h2 : 9007199254740992 < n
  · exact walkO n m sc W C0 _ _ _ _ rfl rfl rfl rfl (Or.inr (Or.inl ⟨decide_eq_false h1, decide_eq_true h2⟩))
  by_cases h3 : m < -9007199254740992
  · exact walkO n m sc W C0 _ _ _ _ rfl rfl rfl rfl (Or.inr (Or.inr (Or.inl ⟨decide_eq_false h1, decide_eq_false h2, decide_eq_true h3⟩)))
  by_cases h4 : 9007199254740992 < m
  · exact walkO n m sc W C0 _ _ _ _ rfl rfl rfl rfl (Or.inr (Or.inr (Or.inr ⟨decide_eq_false h1, decide_eq_false h2, decide_eq_false h3, decide_eq_true h4⟩)))
  by_cases he : sc < 0 ∨ 60 < sc
  · exact walkE n m sc W C0 h1 h2 h3 h4 he
  obtain ⟨s, rfl⟩ := Int.eq_ofNat_of_zero_le (show 0 ≤ sc by omega)
  refine walkI n m s (fx n s) (fx m s) (decide (n < m)) (decide (m < n)) W C0 h1 h2 h3 h4 (Lib.hid fun w => ffx_w n s w (by omega) (by omega) (by omega)) (Lib.hid fun w => ffx_w m s w (by omega) (by omega) (by omega))
    (Lib.hid fun w => less_w _ _ _ w (fx_lt (by omega) (by omega)) (fx_lt (by omega) (by omega)) (ef_fx (by omega) (by omega)) (ef_fx (by omega) (by omega)) (ord_fx (by omega) (by omega) (by omega) (by omega) (by omega)))
    (Lib.hid fun w => less_w _ _ _ w (fx_lt (by omega) (by omega)) (fx_lt (by omega) (by omega)) (ef_fx (by omega) (by omega)) (ef_fx (by omega) (by omega)) (ord_fx (by omega) (by omega) (by omega) (by omega) (by omega))) ?_
  rcases Int.lt_trichotomy n m with h | h | h
  · exact Or.inl ⟨decide_eq_true h, decide_eq_false (by omega), h⟩
  · exact Or.inr (Or.inr ⟨decide_eq_false (by omega), decide_eq_false (by omega), h⟩)
  · exact Or.inr (Or.inl ⟨decide_eq_false (by omega), decide_eq_true h, h⟩)
-- FRAME --

set_option maxRecDepth 100000 in
theorem lifted (os : Os) (started : os.Started) (H : Type) (enc : TypeId × Value → H) :
    ReturnsInHanded {} Tryd.checked os 6 .any (fun w args => (Rows.bitsOrderSpec.pre enc Tryd.prog Tryd.f6 [] false w args ∧ laidMetH Tryd.prog DoorB.laid w) ∧ sizedMet enc Tryd.prog Tryd.f6 (OpenSpec.ofChange Rows.bitsOrderSpec) false w args) (Rows.bitsOrderSpec.post enc Tryd.prog Tryd.f6 false true false false) :=
  Frame.lifted_open (C := Tryd.checked) 6 Tryd.f6 Tryd.own started (by kernel_rfl) Tryd.func6 Tryd.laidOut rfl (by kernel_rfl) 4 rfl Tryd.underlying4
      (fun ds h => by match ds, h with | [_, _, _], _ => rfl)
      (ChangeSpec.witness_shaped (enc := enc) (C := Tryd.checked) (os := os) (X := fun w _ => laidMetH Tryd.prog DoorB.laid w) false (DoorB.laidWorld os) #[.int .i64 0, .int .i64 0, .int .i64 0] 8 (World.laidAll_os _ _ _) (DoorB.laidWorld_shaped os _) (by kernel_rfl) (by kernel_rfl) (by kernel_rfl) (DoorB.laidWorld_met os _))
      (fun W base args ds ps hval0 hA _ hL => by
        have hval : ∀ (j : Nat) t v, Tryd.f6.params[j]? = some t → args[j]? = some v → Value.okWide Tryd.prog W .any base t v := hval0
        have hA' : DataW.TrodAll enc Tryd.prog W 0 (fun _ => true) true Tryd.f6.params.toList args.toList ds ps := hA
        clear hval0 hA
        have hA := hA'
        clear hA'
        rw [Tryd.params6] at hA hval
        obtain ⟨v0, vs0, d0, ds0, p0, q0, ea, rfl, rfl, tr0, rest0⟩ := trodAll_cons hA
        obtain ⟨v1, vs1, d1, ds1, p1, q1, rfl, rfl, rfl, tr1, rest1⟩ := trodAll_cons rest0
        obtain ⟨v2, vs2, d2, ds2, p2, q2, rfl, rfl, rfl, tr2, rest2⟩ := trodAll_cons rest1
        obtain ⟨rfl, rfl, rfl⟩ := trodAll_nil rest2
        obtain rfl : args = #[v0, v1, v2] := by cases args; simp_all
        clear ea
        obtain ⟨n, rfl, w_n⟩ := Frame.arg_int Tryd.underlying3 (hval 0 _ v0 rfl rfl)
        obtain ⟨m, rfl, w_m⟩ := Frame.arg_int Tryd.underlying3 (hval 1 _ v1 rfl rfl)
        obtain ⟨sc, rfl, w_sc⟩ := Frame.arg_int Tryd.underlying3 (hval 2 _ v2 rfl rfl)
        exact walk n m sc W hL (Frame.bd w_n) (Frame.bd w_m) (Frame.bd w_sc))

/-- The statement. -/
theorem row_holds : Rows.BitsOrderSaid :=
  OpenClaim.holds_of_wide 6 Tryd.f6 rfl rfl rfl rfl rfl rfl rfl ⟨rfl, rfl, rfl, rfl, rfl⟩ rfl rfl rfl rfl rfl (by kernel_rfl) Tryd.func6 (by kernel_rfl)
    (of_decide_eq_true (by kernel_rfl)) (by unfold Func.isWrapper; first | (rw [if_pos (by decide +kernel)]; kernel_rfl) | (rw [if_neg (by decide +kernel)]; exact ⟨rfl, rfl⟩))
    (fun os started H enc _ => lifted os started H enc)
/-- The tied card. -/
theorem proved : Rows.BitsOrderCardSaid :=
  Claim7.holds_tied_plain_at .later [] [.data, .data, .data, .data, .data, .pinned, .pinned, .pinned] true (true, "bcc143c9c6f8b1f314f711a20aa0baf16be0bfafa76d6d1d223097afee771353") false
    row_holds (fun _ h => by cases h) (by kernel_rfl) (fun _ h => by cases h) bitsOrder_row_tie rfl ⟨rfl, rfl⟩ (by kernel_rfl) rfl
    (fun f fn hf hfn => by
      obtain rfl : f = 6 := Option.some.inj ((show Tryd.prog.funcNamed "skyway/skywaykeep1.BitsOrder" = some 6 by kernel_rfl).symm.trans hf) |>.symm
      obtain rfl : fn = Tryd.f6 := (Option.some.inj (Tryd.func6.symm.trans hfn)).symm
      exact ⟨by kernel_rfl, fun j t ht => by
        rw [Tryd.params6] at ht
        have hall : ∀ t ∈ [3, 3, 3], Tryd.prog.wantsStandIn t = false := by
          intro t ht
          simp only [List.mem_cons, List.not_mem_nil, or_false] at ht
          rcases ht with rfl | rfl | rfl <;> kernel_rfl
        exact hall t (List.mem_iff_getElem?.2 ⟨j, by simpa using ht⟩)⟩)
    (by kernel_rfl)
#print axioms proved
end BitsOrder
end Go.Proofs.YtoafljgcmloilaaDoor

