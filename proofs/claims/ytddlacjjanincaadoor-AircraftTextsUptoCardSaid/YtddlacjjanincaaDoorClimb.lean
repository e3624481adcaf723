/- What aircraft.Climb returns. -/
import Derived.Test.YtddlacjjanincaaDoorProfile
import Derived.Test.YtddlacjjanincaaDoorNum
namespace Go.Proofs.YtddlacjjanincaaDoor
open Go.RowKit
namespace Kind
open Kit Name Num
/-- aircraft.Climb's answer for a type that Check accepts. -/
def climbK (ceil climb desc a b : Int) : Int × Int :=
  if a < 0 ∨ 60000 < a ∨ b < 0 ∨ 60000 < b then (0, 4) else if ceil < a ∨ ceil < b then (0, 20) else if a ≤ b then (du (b - a) climb, dde (b - a) climb) else (du (a - b) desc, dde (a - b) desc)
set_option maxHeartbeats 1000000 in
theorem climb_ok (s : ByteArray) (wake ceil climb desc slow fast a b : Int) (w : World) (K : Hid (KindC s wake ceil climb desc slow fast 0))
   (_a1 : 1 ≤ ceil ∧ ceil ≤ 60000) (a2 : 1 ≤ climb ∧ climb ≤ 200) (a3 : 1 ≤ desc ∧ desc ≤ 200) :
    Calls Tryd.prog 11 #[.agg #[.string s, .int .i64 wake, .int .i64 ceil, .int .i64 climb, .int .i64 desc, .int .i64 slow, .int .i64 fast], .int .i64 a, .int .i64 b] w fun e w' => e = .returned (.tuple #[.int .i64 (climbK ceil climb desc a b).1, .int .i64 (climbK ceil climb desc a b).2]) ∧ Below w.heap.size w w' := by
  go_enter Tryd.func11, Tryd.ntmps11
  have hk := k7_new w 23 s wake ceil climb desc slow fast
  have hw := b_alloc (Below.refl w.heap.size w) (.cells #[.string s, .int .i64 wake, .int .i64 ceil, .int .i64 climb, .int .i64 desc, .int .i64 slow, .int .i64 fast] 23)
  go_wp2_with fail
  refine (K.out _).mono ?_; rintro e w1 ⟨rfl, hb⟩
  replace hk := k7_keep hb hk
  replace hw := b_next hw hb
  obtain ⟨k0, k1, k2, k3, k4, k5, k6⟩ := hk
  clear hb
  go_wp2_with fail
  all_goals first
    | (go_ret2; exact ⟨Kit.ret2 (by unfold climbK; first | rw [if_pos (by omega)] | rw [if_neg (by omega), if_pos (by omega)]) (by unfold climbK; first | rw [if_pos (by omega)] | rw [if_neg (by omega), if_pos (by omega)]), hw⟩)
    | (refine (divUp _ _ _ (by omega) (by omega)).mono ?_
       rintro e w2 ⟨rfl, rfl⟩
       go_wp2_with fail
       go_ret2
       exact ⟨Kit.ret2 (by unfold climbK; first | rw [if_neg (by omega), if_neg (by omega), if_pos (by omega)] | rw [if_neg (by omega), if_neg (by omega), if_neg (by omega)]) (by unfold climbK; first | rw [if_neg (by omega), if_neg (by omega), if_pos (by omega)] | rw [if_neg (by omega), if_neg (by omega), if_neg (by omega)]), hw⟩)
theorem climb_kind {s : ByteArray} {wake ceil climb desc slow fast : Int} (h : kchk s wake ceil climb desc slow fast = 0) (a b : Int) (w : World) :
    Calls Tryd.prog 11 #[.agg #[.string s, .int .i64 wake, .int .i64 ceil, .int .i64 climb, .int .i64 desc, .int .i64 slow, .int .i64 fast], .int .i64 a, .int .i64 b] w fun e w' => e = .returned (.tuple #[.int .i64 (climbK ceil climb desc a b).1, .int .i64 (climbK ceil climb desc a b).2]) ∧ Below w.heap.size w w' := by
  have K : KindC s wake ceil climb desc slow fast (kchk s wake ceil climb desc slow fast) := fun w => kindC s wake ceil climb desc slow fast w
  rw [h] at K
  obtain ⟨-, -, a1, a2, a3, -⟩ := kchk_ok h
  exact climb_ok s wake ceil climb desc slow fast a b w (Lib.hid K) a1 a2 a3
end Kind
end Go.Proofs.YtddlacjjanincaaDoor
