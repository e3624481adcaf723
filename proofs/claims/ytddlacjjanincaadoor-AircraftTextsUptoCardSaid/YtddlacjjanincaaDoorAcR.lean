/- aircraft.Reach, aircraft.Climb at a type with a fault, the example. -/
import Derived.Test.YtddlacjjanincaaDoorAcT
import Derived.Test.YtddlacjjanincaaDoorVarA
import Derived.Test.YtddlacjjanincaaDoorClimb
namespace Go.Proofs.YtddlacjjanincaaDoor
open Go.RowKit
namespace Ac
open Kit Name Kind Pt
theorem climb_bad (s : ByteArray) (wake ceil climb desc slow fast a b E : Int) (w : World) (hE : kchk s wake ceil climb desc slow fast = E) (h0 : E ≠ 0) :
    Calls Tryd.prog 11 #[.agg #[.string s, .int .i64 wake, .int .i64 ceil, .int .i64 climb, .int .i64 desc, .int .i64 slow, .int .i64 fast], .int .i64 a, .int .i64 b] w fun e w' => e = .returned (.tuple #[.int .i64 0, .int .i64 E]) ∧ Below w.heap.size w w' := by
  have KK := Lib.hid fun w => kindC s wake ceil climb desc slow fast w
  rw [hE] at KK
  clear hE
  have h2 : (E != 0) = true := by simpa using h0
  clear h0
  have B0 := Lib.hid (b_alloc (Below.refl w.heap.size w) (.cells #[.string s, .int .i64 wake, .int .i64 ceil, .int .i64 climb, .int .i64 desc, .int .i64 slow, .int .i64 fast] 23))
  obtain ⟨c0, c1, c2, c3, c4, c5, c6⟩ := k7_new w 23 s wake ceil climb desc slow fast
  go_enter Tryd.func11, Tryd.ntmps11
  go_wp2_with fail
  (with_reducible refine (KK.out _).mono ?_); rintro e w1 ⟨rfl, hb⟩
  have B1 := Lib.hid (b_next B0.out hb); clear hb
  go_wp2_with fail
  go_ret2
  exact ⟨rfl, B1.out⟩
theorem reach_bad (s : ByteArray) (wake ceil climb desc slow fast a b E : Int) (w : World) (hE : kchk s wake ceil climb desc slow fast = E) (h0 : E ≠ 0) :
    Calls Tryd.prog 10 #[.agg #[.string s, .int .i64 wake, .int .i64 ceil, .int .i64 climb, .int .i64 desc, .int .i64 slow, .int .i64 fast], .int .i64 a, .int .i64 b] w fun e w' => e = .returned (.tuple #[.int .i64 0, .int .i64 0, .int .i64 E]) ∧ Below w.heap.size w w' := by
  have KK := Lib.hid fun w => kindC s wake ceil climb desc slow fast w
  rw [hE] at KK
  clear hE
  have h2 : (E != 0) = true := by simpa using h0
  clear h0
  have B0 := Lib.hid (b_alloc (Below.refl w.heap.size w) (.cells #[.string s, .int .i64 wake, .int .i64 ceil, .int .i64 climb, .int .i64 desc, .int .i64 slow, .int .i64 fast] 23))
  obtain ⟨c0, c1, c2, c3, c4, c5, c6⟩ := k7_new w 23 s wake ceil climb desc slow fast
  go_enter Tryd.func10, Tryd.ntmps10
  go_wp2_with fail
  (with_reducible refine (KK.out _).mono ?_); rintro e w1 ⟨rfl, hb⟩
  have B1 := Lib.hid (b_next B0.out hb); clear hb
  go_wp2_with fail
  go_ret3
  exact ⟨rfl, B1.out⟩
/-- The heights that are reached. -/
def rlow (desc h t : Int) : Int := max 0 (h - desc * t)
def rhigh (ceil climb h t : Int) : Int := min ceil (h + climb * t)
def rerr (ceil h t : Int) : Int := if h < 0 ∨ 60000 < h ∨ t < 0 ∨ 200000 < t then 4 else if ceil < h then 20 else 0
theorem reach_no (s : ByteArray) (wake ceil climb desc slow fast a b : Int) (w : World) (hE : kchk s wake ceil climb desc slow fast = 0) (h0 : rerr ceil a b ≠ 0) :
    Calls Tryd.prog 10 #[.agg #[.string s, .int .i64 wake, .int .i64 ceil, .int .i64 climb, .int .i64 desc, .int .i64 slow, .int .i64 fast], .int .i64 a, .int .i64 b] w fun e w' => e = .returned (.tuple #[.int .i64 0, .int .i64 0, .int .i64 (rerr ceil a b)]) ∧ Below w.heap.size w w' := by
  have KK := Lib.hid fun w => kindC s wake ceil climb desc slow fast w
  rw [hE] at KK
  clear hE
  obtain ⟨E, hR⟩ : ∃ E, E = rerr ceil a b := ⟨_, rfl⟩
  rw [← hR] at h0 ⊢
  have HR := Lib.hid hR; have H0 := Lib.hid h0; clear hR h0
  have K0 := Lib.hid (k7_new w 23 s wake ceil climb desc slow fast)
  have B0 := Lib.hid (b_alloc (Below.refl w.heap.size w) (.cells #[.string s, .int .i64 wake, .int .i64 ceil, .int .i64 climb, .int .i64 desc, .int .i64 slow, .int .i64 fast] 23))
  obtain ⟨c0, c1, c2, c3, c4, c5, c6⟩ := K0.out
  go_enter Tryd.func10, Tryd.ntmps10
  go_wp2_with fail
  (with_reducible refine (KK.out _).mono ?_); rintro e w1 ⟨rfl, hb⟩
  have B1 := Lib.hid (b_next B0.out hb); have K1 := Lib.hid (k7_keep hb K0.out); clear hb c0 c1 c2 c3 c4 c5 c6
  obtain ⟨c0, c1, c2, c3, c4, c5, c6⟩ := K1.out
  by_cases q1 : a < 0
  · have e : E = 4 := by rw [HR.out]; unfold rerr; first | rw [if_pos (by omega)] | rw [if_neg (by omega), if_pos (by omega)]
    subst e
    go_wp2_with fail
    go_ret3
    exact ⟨rfl, B1.out⟩
  · by_cases q2 : 60000 < a
    · have e : E = 4 := by rw [HR.out]; unfold rerr; first | rw [if_pos (by omega)] | rw [if_neg (by omega), if_pos (by omega)]
      subst e
      go_wp2_with fail
      go_ret3
      exact ⟨rfl, B1.out⟩
    · by_cases q3 : b < 0
      · have e : E = 4 := by rw [HR.out]; unfold rerr; first | rw [if_pos (by omega)] | rw [if_neg (by omega), if_pos (by omega)]
        subst e
        go_wp2_with fail
        go_ret3
        exact ⟨rfl, B1.out⟩
      · by_cases q4 : 200000 < b
        · have e : E = 4 := by rw [HR.out]; unfold rerr; first | rw [if_pos (by omega)] | rw [if_neg (by omega), if_pos (by omega)]
          subst e
          go_wp2_with fail
          go_ret3
          exact ⟨rfl, B1.out⟩
        · have q5 : ceil < a := Classical.byContradiction fun q => H0.out (by rw [HR.out]; unfold rerr; rw [if_neg (by omega), if_neg q])
          have e : E = 20 := by rw [HR.out]; unfold rerr; first | rw [if_pos (by omega)] | rw [if_neg (by omega), if_pos (by omega)]
          subst e
          go_wp2_with fail
          go_ret3
          exact ⟨rfl, B1.out⟩
set_option maxRecDepth 100000 in
set_option maxHeartbeats 2000000 in
theorem reach_ok (s : ByteArray) (wake ceil climb desc slow fast a b : Int) (w : World) (hE : kchk s wake ceil climb desc slow fast = 0) (h0 : rerr ceil a b = 0) :
    Calls Tryd.prog 10 #[.agg #[.string s, .int .i64 wake, .int .i64 ceil, .int .i64 climb, .int .i64 desc, .int .i64 slow, .int .i64 fast], .int .i64 a, .int .i64 b] w fun e w' => e = .returned (.tuple #[.int .i64 (rlow desc a b), .int .i64 (rhigh ceil climb a b), .int .i64 0]) ∧ Below w.heap.size w w' := by
  have KK := Lib.hid fun w => kindC s wake ceil climb desc slow fast w
  rw [hE] at KK
  obtain ⟨-, -, a1, a2, a3, -⟩ := kchk_ok hE
  clear hE
  unfold rerr at h0
  have h1 : ¬ (a < 0 ∨ 60000 < a ∨ b < 0 ∨ 200000 < b) := fun q => by rw [if_pos q] at h0; cases h0
  rw [if_neg h1] at h0
  have q5 : ¬ ceil < a := fun q => by rw [if_pos q] at h0; cases h0
  have q1 : ¬ a < 0 := by omega
  have q2 : ¬ 60000 < a := by omega
  have q3 : ¬ b < 0 := by omega
  have q4 : ¬ 200000 < b := by omega
  clear h0 h1
  unfold rlow rhigh
  have p1 : 0 ≤ desc * b := Int.mul_nonneg (by omega) (by omega)
  have p2 : desc * b ≤ 200 * 200000 := Int.mul_le_mul (by omega) (by omega) (by omega) (by omega)
  have p3 : 0 ≤ climb * b := Int.mul_nonneg (by omega) (by omega)
  have p4 : climb * b ≤ 200 * 200000 := Int.mul_le_mul (by omega) (by omega) (by omega) (by omega)
  obtain ⟨D, hD⟩ : ∃ D, D = desc * b := ⟨_, rfl⟩
  obtain ⟨U, hU⟩ : ∃ U, U = climb * b := ⟨_, rfl⟩
  rw [← hD] at p1 p2; rw [← hU] at p3 p4
  rw [← hD, ← hU]
  have w1' : IntKind.i64.wrap (desc * b) = D := by rw [← hD]; exact IntWalk.i64_in _ (by omega)
  have w2' : IntKind.i64.wrap (climb * b) = U := by rw [← hU]; exact IntWalk.i64_in _ (by omega)
  have w3' : IntKind.i64.wrap (a - D) = a - D := IntWalk.i64_in _ (by omega)
  have w4' : IntKind.i64.wrap (a + U) = a + U := IntWalk.i64_in _ (by omega)
  clear hD hU p1 p2 p3 p4 a2 a3
  have K0 := Lib.hid (k7_new w 23 s wake ceil climb desc slow fast)
  have B0 := Lib.hid (b_alloc (Below.refl w.heap.size w) (.cells #[.string s, .int .i64 wake, .int .i64 ceil, .int .i64 climb, .int .i64 desc, .int .i64 slow, .int .i64 fast] 23))
  obtain ⟨c0, c1, c2, c3, c4, c5, c6⟩ := K0.out
  go_enter Tryd.func10, Tryd.ntmps10
  go_wp2_with fail
  (with_reducible refine (KK.out _).mono ?_); rintro e w1 ⟨rfl, hb⟩
  have B1 := Lib.hid (b_next B0.out hb); have K1 := Lib.hid (k7_keep hb K0.out); clear hb c0 c1 c2 c3 c4 c5 c6
  obtain ⟨c0, c1, c2, c3, c4, c5, c6⟩ := K1.out
  go_wp2_with fail
  refine d_region (by kernel_rfl) (by kernel_rfl) ?_
  repeat
    first
      | (refine d_plain (by with_reducible rfl) ?_; apply Exists.intro; refine ⟨fun wq hc hq => ?_, ?_⟩)
      | (refine d_on (by with_reducible rfl) (by rfl) (by with_reducible rfl) ?_; apply Exists.intro; refine ⟨fun wq hc hq => ?_, ?_⟩)
      | (refine d_off (by with_reducible rfl) (by rfl) (by rfl) ?_)
      | (refine d_void (by with_reducible rfl) (by rfl) ?_)
    try any_goals
      (obtain ⟨c0, c1, c2, c3, c4, c5, c6⟩ := k7_keep (cls hq) K1.out; clear hc
       go_simp
       first
         | rfl)
    simp only [Act.put, List.setIfInBounds_toArray, List.set_cons_zero, List.set_cons_succ]
  refine d_nil ?_
  intro w2 hb2
  have B2 := Lib.hid (b_next B1.out hb2); clear hb2
  go_wp2_with fail
  go_ret3
  exact ⟨rfl, B2.out⟩
end Ac
end Go.Proofs.YtddlacjjanincaaDoor
