/- What fly.Profile returns. -/
import Derived.Test.YteaccanhahmclaaKind
import Derived.Test.YteaccanhahmclaaDraw
namespace Go.Proofs.Yteaccanhahmclaa
open Go.RowKit
namespace Kind
open Kit Name
/-- fly.Profile's answer for a type that Check accepts. -/
def prof (ceil climb desc height total t : Int) : Int × Int :=
  if ceil < height then (0, 20) else if height < 0 ∨ 60000 < height ∨ total < 0 ∨ 200000 < total ∨ t < 0 ∨ total < t then (0, 4) else (min height (min (climb * t) (desc * (total - t))), 0)
abbrev KindC (s : ByteArray) (wake ceil climb desc slow fast E : Int) : Prop := ∀ w, Calls Try.prog 137 #[.agg #[.string s, .int .i64 wake, .int .i64 ceil, .int .i64 climb, .int .i64 desc, .int .i64 slow, .int .i64 fast]] w fun e w' => e = .returned (.int .i64 E) ∧ Below w.heap.size w w'
theorem mul_bd {a b A B : Int} (h0 : 0 ≤ a) (h1 : a ≤ A) (h2 : 0 ≤ b) (h3 : b ≤ B) : 0 ≤ a * b ∧ a * b ≤ A * B :=
  ⟨Int.mul_nonneg h0 h2, Int.mul_le_mul h1 h3 h2 (by omega)⟩
set_option maxHeartbeats 1000000 in
theorem prof_ok (s : ByteArray) (wake ceil climb desc slow fast height total t : Int) (w : World) (K : Hid (KindC s wake ceil climb desc slow fast 0))
   (a2 : 1 ≤ climb ∧ climb ≤ 200) (a3 : 1 ≤ desc ∧ desc ≤ 200) (b1 : ¬ ceil < height) (b2 : 0 ≤ height) (b3 : height ≤ 60000) (b4 : 0 ≤ total) (b5 : total ≤ 200000) (b6 : 0 ≤ t) (b7 : t ≤ total) :
    Calls Try.prog 86 #[.agg #[.string s, .int .i64 wake, .int .i64 ceil, .int .i64 climb, .int .i64 desc, .int .i64 slow, .int .i64 fast], .int .i64 height, .int .i64 total, .int .i64 t] w fun e w' => e = .returned (.tuple #[.int .i64 (min height (min (climb * t) (desc * (total - t)))), .int .i64 0]) ∧ Below w.heap.size w w' := by
  have p1 := mul_bd (by omega) a2.2 b6 (show t ≤ 200000 by omega)
  have p2 := mul_bd (by omega) a3.2 (show 0 ≤ total - t by omega) (show total - t ≤ 200000 by omega)
  go_enter Try.func86, Try.ntmps86
  have hk := k7_new w 164 s wake ceil climb desc slow fast
  have hw := b_alloc (Below.refl w.heap.size w) (.cells #[.string s, .int .i64 wake, .int .i64 ceil, .int .i64 climb, .int .i64 desc, .int .i64 slow, .int .i64 fast] 164)
  go_wp2_with fail
  refine (K.out _).mono ?_; rintro e w1 ⟨rfl, hb⟩
  replace hk := k7_keep hb hk
  replace hw := b_next hw hb
  obtain ⟨k0, k1, k2, k3, k4, k5, k6⟩ := hk
  clear hb
  go_wp2_with fail
  all_goals go_ret2
  all_goals exact ⟨ret2 (by omega) rfl, hw⟩
set_option maxHeartbeats 1000000 in
theorem prof_no (s : ByteArray) (wake ceil climb desc slow fast height total t : Int) (w : World) (K : Hid (KindC s wake ceil climb desc slow fast 0))
   (b : ceil < height ∨ height < 0 ∨ 60000 < height ∨ total < 0 ∨ 200000 < total ∨ t < 0 ∨ total < t) :
    Calls Try.prog 86 #[.agg #[.string s, .int .i64 wake, .int .i64 ceil, .int .i64 climb, .int .i64 desc, .int .i64 slow, .int .i64 fast], .int .i64 height, .int .i64 total, .int .i64 t] w fun e w' => e = .returned (.tuple #[.int .i64 0, .int .i64 (if ceil < height then 20 else 4)]) ∧ Below w.heap.size w w' := by
  go_enter Try.func86, Try.ntmps86
  have hk := k7_new w 164 s wake ceil climb desc slow fast
  have hw := b_alloc (Below.refl w.heap.size w) (.cells #[.string s, .int .i64 wake, .int .i64 ceil, .int .i64 climb, .int .i64 desc, .int .i64 slow, .int .i64 fast] 164)
  go_wp2_with fail
  refine (K.out _).mono ?_; rintro e w1 ⟨rfl, hb⟩
  replace hk := k7_keep hb hk
  replace hw := b_next hw hb
  obtain ⟨k0, k1, k2, k3, k4, k5, k6⟩ := hk
  clear hb
  go_wp2_with fail
  all_goals first | (exfalso; omega) | (go_ret2; exact ⟨ret2 rfl (by first | rfl | omega | (split <;> omega)), hw⟩)
set_option maxHeartbeats 1000000 in
theorem prof_bad (s : ByteArray) (wake ceil climb desc slow fast height total t E : Int) (w : World) (K : Hid (KindC s wake ceil climb desc slow fast E)) (_hE1 : (E == 0) = false) (hE2 : (E != 0) = true) :
    Calls Try.prog 86 #[.agg #[.string s, .int .i64 wake, .int .i64 ceil, .int .i64 climb, .int .i64 desc, .int .i64 slow, .int .i64 fast], .int .i64 height, .int .i64 total, .int .i64 t] w fun e w' => e = .returned (.tuple #[.int .i64 0, .int .i64 E]) ∧ Below w.heap.size w w' := by
  go_enter Try.func86, Try.ntmps86
  have hk := k7_new w 164 s wake ceil climb desc slow fast
  have hw := b_alloc (Below.refl w.heap.size w) (.cells #[.string s, .int .i64 wake, .int .i64 ceil, .int .i64 climb, .int .i64 desc, .int .i64 slow, .int .i64 fast] 164)
  go_wp2_with fail
  refine (K.out _).mono ?_; rintro e w1 ⟨rfl, hb⟩
  replace hk := k7_keep hb hk
  replace hw := b_next hw hb
  obtain ⟨k0, k1, k2, k3, k4, k5, k6⟩ := hk
  clear hb
  go_wp2_with fail
  all_goals (go_ret2; exact ⟨ret2 rfl rfl, hw⟩)
/-- fly.Profile's answer. -/
def profE (s : ByteArray) (wake ceil climb desc slow fast height total t : Int) : Int × Int :=
  if kchk s wake ceil climb desc slow fast = 0 then prof ceil climb desc height total t else (0, kchk s wake ceil climb desc slow fast)
theorem kchk_ok {s : ByteArray} {wake ceil climb desc slow fast : Int} (h : kchk s wake ceil climb desc slow fast = 0) :
    nameB s = true ∧ (0 ≤ wake ∧ wake ≤ 3) ∧ (1 ≤ ceil ∧ ceil ≤ 60000) ∧ (1 ≤ climb ∧ climb ≤ 200) ∧ (1 ≤ desc ∧ desc ≤ 200) ∧ (1 ≤ slow ∧ slow ≤ 400) ∧ (1 ≤ fast ∧ fast ≤ 400) ∧ slow ≤ fast := by
  unfold kchk outB at h
  simp only [decide_eq_true_eq] at h
  split at h
  · omega
  · rename_i h0
    split at h
    · omega
    · split at h
      · omega
      · split at h
        · omega
        · exact ⟨by simpa using h0, by omega, by omega, by omega, by omega, by omega, by omega, by omega⟩
theorem profC (s : ByteArray) (wake ceil climb desc slow fast height total t : Int) (w : World) :
    Calls Try.prog 86 #[.agg #[.string s, .int .i64 wake, .int .i64 ceil, .int .i64 climb, .int .i64 desc, .int .i64 slow, .int .i64 fast], .int .i64 height, .int .i64 total, .int .i64 t] w fun e w' => e = .returned (.tuple #[.int .i64 (profE s wake ceil climb desc slow fast height total t).1, .int .i64 (profE s wake ceil climb desc slow fast height total t).2]) ∧ Below w.heap.size w w' := by
  have K : KindC s wake ceil climb desc slow fast (kchk s wake ceil climb desc slow fast) := fun w => kindC s wake ceil climb desc slow fast w
  by_cases hE : kchk s wake ceil climb desc slow fast = 0
  · obtain ⟨-, -, a1, a2, a3, -⟩ := kchk_ok hE
    rw [hE] at K
    unfold profE
    rw [if_pos hE]
    unfold prof
    by_cases b : ceil < height ∨ height < 0 ∨ 60000 < height ∨ total < 0 ∨ 200000 < total ∨ t < 0 ∨ total < t
    · refine (prof_no s wake ceil climb desc slow fast height total t w (Lib.hid K) b).mono ?_
      rintro e w' ⟨rfl, hb⟩
      refine ⟨?_, hb⟩
      by_cases c : ceil < height
      · rw [if_pos c, if_pos c]
      · rw [if_neg c, if_neg c, if_pos (by omega)]
    · rw [if_neg (by omega), if_neg (by omega)]
      exact prof_ok s wake ceil climb desc slow fast height total t w (Lib.hid K) a2 a3 (by omega) (by omega) (by omega) (by omega) (by omega) (by omega) (by omega)
  · unfold profE
    rw [if_neg hE]
    exact prof_bad s wake ceil climb desc slow fast height total t _ w (Lib.hid K) (by simpa using hE) (by simpa using hE)
end Kind
end Go.Proofs.Yteaccanhahmclaa
