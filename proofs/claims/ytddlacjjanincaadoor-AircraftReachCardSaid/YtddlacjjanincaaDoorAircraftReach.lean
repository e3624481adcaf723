/- P80..: a height can be reached in a time exactly if the climb or descent does not take longer. For every type, heights and time. -/
import Derived.Test.YtddlacjjanincaaDoorAcW
import Derived.Test.YtddlacjjanincaaDoorDoorR
import Derived.Test.YtddlacjjanincaaDoorCards
namespace Go.Proofs.YtddlacjjanincaaDoor
open Go.RowKit Go.ChangeShapes Go.WideShapes
namespace AircraftReach
open Kit Name Kind Pt Ac
theorem du_sp {a b : Int} (ha : 0 ≤ a) (hb : 0 < b) : 0 ≤ Num.du a b ∧ a ≤ b * Num.du a b ∧ b * Num.du a b < a + b := by
  have h := Num.du_ok (a := a) (b := b) (by omega) (by omega)
  have e1 := Int.mul_ediv_add_emod a b
  have e2 := Int.emod_nonneg a (show b ≠ 0 by omega)
  have e3 := Int.emod_lt_of_pos a hb
  have e4 : a.tmod b = a % b := Int.tmod_eq_emod_of_nonneg ha
  have e5 : 0 ≤ a / b := Int.ediv_nonneg ha (by omega)
  rw [h, e4, Num.fd_pos hb]
  split
  · generalize b * (a / b) = t at *; omega
  · rw [Int.mul_add, Int.mul_one]; generalize b * (a / b) = t at *; omega
theorem du_le {x d t : Int} (hx : 0 ≤ x) (hd : 0 < d) : Num.du x d ≤ t ↔ x ≤ d * t := by
  have h := du_sp hx hd
  constructor
  · intro q
    have := Int.mul_le_mul_of_nonneg_left q (show (0 : Int) ≤ d by omega)
    omega
  · intro q
    by_cases c : Num.du x d ≤ t
    · exact c
    · have : d * (t + 1) ≤ d * Num.du x d := Int.mul_le_mul_of_nonneg_left (by omega) (by omega)
      rw [Int.mul_add] at this
      omega
/-- What the law says of the numbers. -/
theorem plain {ceil climb desc fr to t : Int} (_a1 : 1 ≤ ceil ∧ ceil ≤ 60000) (a2 : 1 ≤ climb ∧ climb ≤ 200) (a3 : 1 ≤ desc ∧ desc ≤ 200) (h1 : rerr ceil fr t = 0) (h2 : (climbK ceil climb desc fr to).2 = 0) :
    rlow desc fr t ≤ fr ∧ fr ≤ rhigh ceil climb fr t ∧ (decide ((climbK ceil climb desc fr to).1 ≤ t) = decide (rlow desc fr t ≤ to ∧ to ≤ rhigh ceil climb fr t)) := by
  unfold rerr at h1
  have q1 : ¬ (fr < 0 ∨ 60000 < fr ∨ t < 0 ∨ 200000 < t) := fun q => by rw [if_pos q] at h1; cases h1
  rw [if_neg q1] at h1
  have q2 : ¬ ceil < fr := fun q => by rw [if_pos q] at h1; cases h1
  unfold climbK at h2 ⊢
  have q3 : ¬ (fr < 0 ∨ 60000 < fr ∨ to < 0 ∨ 60000 < to) := fun q => by rw [if_pos q] at h2; cases h2
  rw [if_neg q3] at h2 ⊢
  have q4 : ¬ (ceil < fr ∨ ceil < to) := fun q => by rw [if_pos q] at h2; cases h2
  rw [if_neg q4] at h2 ⊢
  have p1 : 0 ≤ desc * t := Int.mul_nonneg (by omega) (by omega)
  have p2 : 0 ≤ climb * t := Int.mul_nonneg (by omega) (by omega)
  unfold rlow rhigh
  refine ⟨by omega, by omega, ?_⟩
  apply decide_eq_decide.2
  by_cases c : fr ≤ to
  · rw [if_pos c]
    show Num.du (to - fr) climb ≤ t ↔ _
    rw [du_le (by omega) (by omega)]
    omega
  · rw [if_neg c]
    show Num.du (fr - to) desc ≤ t ↔ _
    rw [du_le (by omega) (by omega)]
    omega
abbrev Res (s : ByteArray) (wake ceil climb desc slow fast fr to t : Int) (w : World) : Prop := Calls Tryd.prog 3 #[.agg #[.string s, .int .i64 wake, .int .i64 ceil, .int .i64 climb, .int .i64 desc, .int .i64 slow, .int .i64 fast], .int .i64 fr, .int .i64 to, .int .i64 t] w fun e w' => e = .returned (.bool true) ∧ Below w.heap.size w w'
set_option maxRecDepth 100000 in
set_option maxHeartbeats 4000000 in
theorem core (s : ByteArray) (wake ceil climb desc slow fast fr to t lo hi n E F : Int) (w : World)
    (WK : Hid (∀ w1, Below w.heap.size w w1 → Calls Tryd.prog 9 #[] w1 fun e w' => e = .returned (.bool true) ∧ Below w1.heap.size w1 w'))
    (RC : Hid (∀ w1, Calls Tryd.prog 10 #[.agg #[.string s, .int .i64 wake, .int .i64 ceil, .int .i64 climb, .int .i64 desc, .int .i64 slow, .int .i64 fast], .int .i64 fr, .int .i64 t] w1 fun e w' => e = .returned (.tuple #[.int .i64 lo, .int .i64 hi, .int .i64 E]) ∧ Below w1.heap.size w1 w'))
    (CC : Hid (∀ w1, Calls Tryd.prog 11 #[.agg #[.string s, .int .i64 wake, .int .i64 ceil, .int .i64 climb, .int .i64 desc, .int .i64 slow, .int .i64 fast], .int .i64 fr, .int .i64 to] w1 fun e w' => e = .returned (.tuple #[.int .i64 n, .int .i64 F]) ∧ Below w1.heap.size w1 w'))
    (HE : E ≠ 0 → lo = 0 ∧ hi = 0) (HF : F ≠ 0 → n = 0) (HH : E = 0 → F = 0 → lo ≤ fr ∧ fr ≤ hi ∧ (decide (n ≤ t) = decide (lo ≤ to ∧ to ≤ hi))) : Res s wake ceil climb desc slow fast fr to t w := by
  have K0 := Lib.hid (k7_new w 23 s wake ceil climb desc slow fast)
  have B0 := Lib.hid (b_alloc (Below.refl w.heap.size w) (.cells #[.string s, .int .i64 wake, .int .i64 ceil, .int .i64 climb, .int .i64 desc, .int .i64 slow, .int .i64 fast] 23))
  have HEh := Lib.hid HE; have HFh := Lib.hid HF; have HHh := Lib.hid HH; clear HE HF HH
  go_enter Tryd.func3, Tryd.ntmps3
  go_wp2_with fail
  (with_reducible refine (WK.out _ B0.out).mono ?_); rintro e w1 ⟨rfl, hb⟩
  have B1 := Lib.hid (b_next B0.out hb); have K1 := Lib.hid (k7_keep hb K0.out); clear hb
  obtain ⟨c0, c1, c2, c3, c4, c5, c6⟩ := K1.out
  go_wp2_with fail
  (with_reducible refine (RC.out _).mono ?_); rintro e w2 ⟨rfl, hb⟩
  have B2 := Lib.hid (b_next B1.out hb); have K2 := Lib.hid (k7_keep hb K1.out); clear hb c0 c1 c2 c3 c4 c5 c6
  obtain ⟨c0, c1, c2, c3, c4, c5, c6⟩ := K2.out
  go_wp2_with fail
  (with_reducible refine (CC.out _).mono ?_); rintro e w3 ⟨rfl, hb⟩
  have B3 := Lib.hid (b_next B2.out hb); clear hb c0 c1 c2 c3 c4 c5 c6
  by_cases hE : E = 0
  · subst hE
    by_cases hF : F = 0
    · subst hF
      obtain ⟨g1, g2, g3⟩ := HHh.out rfl rfl
      by_cases q1 : lo ≤ to
      · by_cases q2 : to ≤ hi
        · have q3 : n ≤ t := by
            rw [decide_eq_true (p := lo ≤ to ∧ to ≤ hi) ⟨q1, q2⟩] at g3; exact of_decide_eq_true g3
          have g4 := decide_eq_true q3; have g5 := decide_eq_true q2
          clear g3
          go_wp2_with fail
          go_ret
          exact ⟨rfl, B3.out⟩
        · have q3 : ¬ n ≤ t := by
            rw [decide_eq_false (p := lo ≤ to ∧ to ≤ hi) (fun h => q2 h.2)] at g3; exact of_decide_eq_false g3
          have g4 := decide_eq_false q3; have g5 := decide_eq_false q2
          clear g3
          go_wp2_with fail
          go_ret
          exact ⟨rfl, B3.out⟩
      · have q3 : ¬ n ≤ t := by
          rw [decide_eq_false (p := lo ≤ to ∧ to ≤ hi) (fun h => q1 h.1)] at g3; exact of_decide_eq_false g3
        have g4 := decide_eq_false q3; have g5 := decide_eq_false q1
        clear g3
        go_wp2_with fail
        go_ret
        exact ⟨rfl, B3.out⟩
    · have e1 := HFh.out hF
      subst e1
      have f1 : (F == 0) = false := by simpa using hF
      have f2 : (F != 0) = true := by simpa using hF
      clear hF
      go_wp2_with fail
      go_ret
      exact ⟨rfl, B3.out⟩
  · obtain ⟨e1, e2⟩ := HEh.out hE
    subst e1 e2
    have f1 : (E == 0) = false := by simpa using hE
    have f2 : (E != 0) = true := by simpa using hE
    clear hE
    by_cases hF : F = 0
    · subst hF
      go_wp2_with fail
      go_ret
      exact ⟨rfl, B3.out⟩
    · have e1 := HFh.out hF
      subst e1
      have f3 : (F == 0) = false := by simpa using hF
      clear hF
      go_wp2_with fail
      go_ret
      exact ⟨rfl, B3.out⟩
theorem walk (k_name : ByteArray) (k_wake k_ceil k_climb k_desc k_slow k_fast fr to seconds : Int) (W : World) (hL : laidMetH Tryd.prog DoorR.laid W) (_h0 : k_name.size ≤ maxLen) (_h1 : -9223372036854775808 ≤ k_wake ∧ k_wake ≤ 9223372036854775807) (_h2 : -9223372036854775808 ≤ k_ceil ∧ k_ceil ≤ 9223372036854775807) (_h3 : -9223372036854775808 ≤ k_climb ∧ k_climb ≤ 9223372036854775807) (_h4 : -9223372036854775808 ≤ k_desc ∧ k_desc ≤ 9223372036854775807) (_h5 : -9223372036854775808 ≤ k_slow ∧ k_slow ≤ 9223372036854775807) (_h6 : -9223372036854775808 ≤ k_fast ∧ k_fast ≤ 9223372036854775807) (_h7 : -9223372036854775808 ≤ fr ∧ fr ≤ 9223372036854775807) (_h8 : -9223372036854775808 ≤ to ∧ to ≤ 9223372036854775807) (_h9 : -9223372036854775808 ≤ seconds ∧ seconds ≤ 9223372036854775807) : Res k_name k_wake k_ceil k_climb k_desc k_slow k_fast fr to seconds W := by
  have V := DoorR.vars_of hL
  have WK := Lib.hid fun w1 (hb : Below W.heap.size W w1) => acWorksC (varsA_keep hb V)
  by_cases hK : kchk k_name k_wake k_ceil k_climb k_desc k_slow k_fast = 0
  · obtain ⟨-, -, a1, a2, a3, -⟩ := kchk_ok hK
    have CC := Lib.hid fun w1 => climb_kind hK fr to w1
    have hF : (climbK k_ceil k_climb k_desc fr to).2 ≠ 0 → (climbK k_ceil k_climb k_desc fr to).1 = 0 := by
      unfold climbK
      split
      · intro _; rfl
      · split
        · intro _; rfl
        · split
          · intro h; exact Num.du_bad h
          · intro h; exact Num.du_bad h
    by_cases hR : rerr k_ceil fr seconds = 0
    · exact core k_name k_wake k_ceil k_climb k_desc k_slow k_fast fr to seconds _ _ _ 0 _ W WK (Lib.hid fun w1 => reach_ok _ _ _ _ _ _ _ _ _ w1 hK hR) CC (fun h => absurd rfl h) hF (fun _ hf => plain a1 a2 a3 hR hf)
    · exact core k_name k_wake k_ceil k_climb k_desc k_slow k_fast fr to seconds 0 0 _ _ _ W WK (Lib.hid fun w1 => reach_no _ _ _ _ _ _ _ _ _ w1 hK hR) CC (fun _ => ⟨rfl, rfl⟩) hF (fun h => absurd h hR)
  · exact core k_name k_wake k_ceil k_climb k_desc k_slow k_fast fr to seconds 0 0 0 _ _ W WK (Lib.hid fun w1 => reach_bad _ _ _ _ _ _ _ _ _ _ w1 rfl hK) (Lib.hid fun w1 => climb_bad _ _ _ _ _ _ _ _ _ _ w1 rfl hK) (fun _ => ⟨rfl, rfl⟩) (fun _ => rfl) (fun h => absurd h hK)
-- FRAME --

set_option maxRecDepth 100000 in
theorem lifted (os : Os) (started : os.Started) (H : Type) (enc : TypeId × Value → H) :
    ReturnsInHanded {} Tryd.checked os 3 .any (fun w args => (Rows.aircraftReachSpec.pre enc Tryd.prog Tryd.f3 [] false w args ∧ laidMetH Tryd.prog DoorR.laid w) ∧ sizedMet enc Tryd.prog Tryd.f3 (OpenSpec.ofChange Rows.aircraftReachSpec) false w args) (Rows.aircraftReachSpec.post enc Tryd.prog Tryd.f3 false true false false) :=
  Frame.lifted_laid (C := Tryd.checked) 3 Tryd.f3 Tryd.own started (by kernel_rfl) Tryd.func3 Tryd.laidOut rfl (by kernel_rfl) 4 rfl Tryd.underlying4
      (fun ds h => by match ds, h with | [_, _, _, _], _ => rfl)
      (ChangeSpec.witness_at (enc := enc) (C := Tryd.checked) (os := os) (X := fun w _ => laidMetH Tryd.prog DoorR.laid w) false (DoorR.laidWorld os) #[.agg #[.string ⟨#[]⟩, .int .i64 0, .int .i64 0, .int .i64 0, .int .i64 0, .int .i64 0, .int .i64 0], .int .i64 0, .int .i64 0, .int .i64 0] 8 rfl (by kernel_rfl) (by kernel_rfl) (by kernel_rfl) (by kernel_rfl) (by kernel_rfl) (DoorR.laidWorld_met os _))
      (fun W base args ds ps hval0 hA _ hL => by
        have hval : ∀ (j : Nat) t v, Tryd.f3.params[j]? = some t → args[j]? = some v → Value.okWide Tryd.prog W .any base t v := hval0
        have hA' : DataW.TrodAll enc Tryd.prog W 0 (fun _ => true) true Tryd.f3.params.toList args.toList ds ps := hA
        clear hval0 hA
        have hA := hA'
        clear hA'
        rw [Tryd.params3] at hA hval
        obtain ⟨v0, vs0, d0, ds0, p0, q0, ea, rfl, rfl, tr0, rest0⟩ := trodAll_cons hA
        obtain ⟨v1, vs1, d1, ds1, p1, q1, rfl, rfl, rfl, tr1, rest1⟩ := trodAll_cons rest0
        obtain ⟨v2, vs2, d2, ds2, p2, q2, rfl, rfl, rfl, tr2, rest2⟩ := trodAll_cons rest1
        obtain ⟨v3, vs3, d3, ds3, p3, q3, rfl, rfl, rfl, tr3, rest3⟩ := trodAll_cons rest2
        obtain ⟨rfl, rfl, rfl⟩ := trodAll_nil rest3
        obtain rfl : args = #[v0, v1, v2, v3] := by cases args; simp_all
        clear ea
        obtain ⟨cs_k, e_k, hl_k, hc_k⟩ := Frame.arg_agg Tryd.underlying23 (k := 8) (ks := [.str, .int, .int, .int, .int, .int, .int]) (by kernel_rfl) (hval 0 _ v0 rfl rfl) tr0
        subst e_k
        obtain ⟨c_k_name, c_k_wake, c_k_ceil, c_k_climb, c_k_desc, c_k_slow, c_k_fast, rfl⟩ : ∃ c_k_name c_k_wake c_k_ceil c_k_climb c_k_desc c_k_slow c_k_fast, cs_k = [c_k_name, c_k_wake, c_k_ceil, c_k_climb, c_k_desc, c_k_slow, c_k_fast] := by match cs_k, hl_k with | [x0, x1, x2, x3, x4, x5, x6], _ => exact ⟨x0, x1, x2, x3, x4, x5, x6, rfl⟩
        have o_k_name : Frame.Okc W (.str) c_k_name := hc_k 0 (by decide) (by simp)
        obtain ⟨k_name, e_k_name, w_k_name⟩ := o_k_name.str_inv; subst e_k_name
        have o_k_wake : Frame.Okc W (.int) c_k_wake := hc_k 1 (by decide) (by simp)
        obtain ⟨k_wake, e_k_wake, w_k_wake⟩ := o_k_wake.int_inv; subst e_k_wake
        have o_k_ceil : Frame.Okc W (.int) c_k_ceil := hc_k 2 (by decide) (by simp)
        obtain ⟨k_ceil, e_k_ceil, w_k_ceil⟩ := o_k_ceil.int_inv; subst e_k_ceil
        have o_k_climb : Frame.Okc W (.int) c_k_climb := hc_k 3 (by decide) (by simp)
        obtain ⟨k_climb, e_k_climb, w_k_climb⟩ := o_k_climb.int_inv; subst e_k_climb
        have o_k_desc : Frame.Okc W (.int) c_k_desc := hc_k 4 (by decide) (by simp)
        obtain ⟨k_desc, e_k_desc, w_k_desc⟩ := o_k_desc.int_inv; subst e_k_desc
        have o_k_slow : Frame.Okc W (.int) c_k_slow := hc_k 5 (by decide) (by simp)
        obtain ⟨k_slow, e_k_slow, w_k_slow⟩ := o_k_slow.int_inv; subst e_k_slow
        have o_k_fast : Frame.Okc W (.int) c_k_fast := hc_k 6 (by decide) (by simp)
        obtain ⟨k_fast, e_k_fast, w_k_fast⟩ := o_k_fast.int_inv; subst e_k_fast
        obtain ⟨fr, rfl, w_fr⟩ := Frame.arg_int Tryd.underlying3 (hval 1 _ v1 rfl rfl)
        obtain ⟨to, rfl, w_to⟩ := Frame.arg_int Tryd.underlying3 (hval 2 _ v2 rfl rfl)
        obtain ⟨seconds, rfl, w_seconds⟩ := Frame.arg_int Tryd.underlying3 (hval 3 _ v3 rfl rfl)
        exact walk k_name k_wake k_ceil k_climb k_desc k_slow k_fast fr to seconds W hL w_k_name w_k_wake w_k_ceil w_k_climb w_k_desc w_k_slow w_k_fast (Frame.bd w_fr) (Frame.bd w_to) (Frame.bd w_seconds))

/-- The statement. -/
theorem row_holds : Rows.AircraftReachSaid :=
  OpenClaim.holds_of_wide 3 Tryd.f3 rfl rfl rfl rfl rfl rfl rfl ⟨rfl, rfl, rfl, rfl, rfl⟩ rfl rfl rfl rfl rfl (by kernel_rfl) Tryd.func3 (by kernel_rfl)
    (of_decide_eq_true (by kernel_rfl)) (by unfold Func.isWrapper; first | (rw [if_pos (by decide +kernel)]; kernel_rfl) | (rw [if_neg (by decide +kernel)]; exact ⟨rfl, rfl⟩))
    (fun os started H enc _ => lifted os started H enc)
/-- The tied card. -/
theorem proved : Rows.AircraftReachCardSaid :=
  Claim7.holds_tied_plain_at .later [] [.data, .data, .data, .widerDeep] true (true, "5dce5dcba98ba92a6afee90f47916aa614be58de195b30479e8bf067400b1cbf") true
    row_holds (fun _ h => by cases h) (by kernel_rfl) (fun _ h => by cases h) aircraftReach_row_tie rfl ⟨rfl, rfl⟩ (by kernel_rfl) rfl
    (fun f fn hf hfn => by
      obtain rfl : f = 3 := Option.some.inj ((show Tryd.prog.funcNamed "skyway/skywaykeep1.AircraftReach" = some 3 by kernel_rfl).symm.trans hf) |>.symm
      obtain rfl : fn = Tryd.f3 := (Option.some.inj (Tryd.func3.symm.trans hfn)).symm
      exact ⟨by kernel_rfl, fun j t ht => by
        rw [Tryd.params3] at ht
        have hall : ∀ t ∈ [23, 3, 3, 3], Tryd.prog.wantsStandIn t = false := by
          intro t ht
          simp only [List.mem_cons, List.not_mem_nil, or_false] at ht
          rcases ht with rfl | rfl | rfl | rfl <;> kernel_rfl
        exact hall t (List.mem_iff_getElem?.2 ⟨j, by simpa using ht⟩)⟩)
    (by kernel_rfl)
#print axioms proved
end AircraftReach
end Go.Proofs.YtddlacjjanincaaDoor

