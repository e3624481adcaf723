/- What the functions of package num return: each walked once. -/
import Derived.Test.YtddlacjjanincaaDoorProg
import Derived.Test.YtddlacjjanincaaDoorNumP
import Derived.WalkKit
import Derived.WalkSpells
import Derived.WalkLawsBesides
import Derived.Lib.Hide
import Derived.Deep.QuietTactic
import Derived.BigQuiet
namespace Go.Proofs.YtddlacjjanincaaDoor
open Go.RowKit
namespace Num
theorem ret2 {a b c d : Int} (h1 : a = c) (h2 : b = d) : Ending.returned (.tuple #[.int .i64 a, .int .i64 b]) = .returned (.tuple #[.int .i64 c, .int .i64 d]) := by rw [h1, h2]
theorem ret1 {k : IntKind} {a c : Int} (h1 : a = c) : Ending.returned (.int k a) = .returned (.int k c) := by rw [h1]
set_option maxHeartbeats 400000 in
theorem divDown (a b : Int) (w : World) (ha : -9223372036854775808 ≤ a ∧ a ≤ 9223372036854775807) (hb : -9223372036854775808 ≤ b ∧ b ≤ 9223372036854775807) :
    Calls Tryd.prog 41 #[.int .i64 a, .int .i64 b] w fun e w' => e = .returned (.tuple #[.int .i64 (dd a b), .int .i64 (dde a b)]) ∧ w = w' := by
  by_cases h0 : b = 0
  · have h1 := dd_zero (a := a) h0
    have H := Lib.hid h1; clear h1
    subst h0
    go_enter Tryd.func41, Tryd.ntmps41
    go_wp2
    go_ret2
    exact ⟨ret2 H.out.1.symm H.out.2.symm, rfl⟩
  · by_cases h1 : a = -9223372036854775808 ∧ b = -1
    · have h2 := dd_min h1.1 h1.2
      have H := Lib.hid h2; clear h2
      obtain ⟨rfl, rfl⟩ := h1
      go_enter Tryd.func41, Tryd.ntmps41
      go_wp2
      go_ret2
      exact ⟨ret2 H.out.1.symm H.out.2.symm, rfl⟩
    · by_cases h2 : a = -9223372036854775808
      · have h3 : b ≠ -1 := fun e => h1 ⟨h2, e⟩
        subst h2
        have hb1 : (b == -1) = false := by rw [beq_eq_false_iff_ne]; exact h3
        clear h1
        go_enter Tryd.func41, Tryd.ntmps41
        go_wp2
        all_goals go_ret2
        · have q := min_exact h0 h3 (by assumption); exact ⟨ret2 q.1 q.2, rfl⟩
        · have q := min_less h0 h3 (by assumption) (And.right (by assumption)); exact ⟨ret2 q.1 q.2, rfl⟩
        · have q := min_same h0 h3 (by assumption) (by assumption); exact ⟨ret2 q.1 q.2, rfl⟩
      · have hb1 : (a == -9223372036854775808) = false := by rw [beq_eq_false_iff_ne]; exact h2
        have H1 := Lib.hid h1
        clear h1 h2
        go_enter Tryd.func41, Tryd.ntmps41
        go_wp2
        all_goals go_ret2
        · have q := way_exact ha h0 H1.out (by assumption); exact ⟨ret2 q.1 q.2, rfl⟩
        · have q := way_less ha h0 H1.out (by assumption) (And.right (by assumption)); exact ⟨ret2 q.1 q.2, rfl⟩
        · have q := way_same ha h0 H1.out (by assumption) (by assumption); exact ⟨ret2 q.1 q.2, rfl⟩
set_option maxHeartbeats 400000 in
theorem divUp (a b : Int) (w : World) (ha : -9223372036854775808 ≤ a ∧ a ≤ 9223372036854775807) (hb : -9223372036854775808 ≤ b ∧ b ≤ 9223372036854775807) :
    Calls Tryd.prog 23 #[.int .i64 a, .int .i64 b] w fun e w' => e = .returned (.tuple #[.int .i64 (du a b), .int .i64 (dde a b)]) ∧ w = w' := by
  have hq := dd_bd (b := b) ha
  rcases dde_cases a b with ⟨hE, h0, h1⟩ | ⟨hE, h1⟩
  · have hu := du_ok h0 h1
    have hdd := (dd_ok h0 h1).1
    have H1 := Lib.hid h1; have H2 := Lib.hid hu; have H3 := Lib.hid hdd
    have hEb : (dde a b == 0) = true := by rw [beq_iff_eq]; exact hE
    have H4 := Lib.hid hE
    clear h1 hu hE hdd
    by_cases hm : a.tmod b = 0
    · have hmb : (a.tmod b != 0) = false := by simpa using hm
      have H5 := Lib.hid hm; clear hm
      go_enter Tryd.func23, Tryd.ntmps23
      go_wp2_with (go_at_call 41; refine (divDown a b _ ha hb).mono ?_; rintro e w' ⟨rfl, rfl⟩)
      go_ret2
      exact ⟨ret2 (by rw [H2.out, if_pos H5.out, H3.out]) rfl, rfl⟩
    · have hmb : (a.tmod b != 0) = true := by simpa using hm
      have hlt := fd_lt_max ha h0 hm
      rw [← H3.out] at hlt
      have H5 := Lib.hid hm; clear hm
      go_enter Tryd.func23, Tryd.ntmps23
      go_wp2_with (go_at_call 41; refine (divDown a b _ ha hb).mono ?_; rintro e w' ⟨rfl, rfl⟩)
      go_ret2
      exact ⟨ret2 (by rw [H2.out, if_neg H5.out, H3.out]) rfl, rfl⟩
  · have hu := du_bad hE
    have hdd : dd a b = 0 := by
      rcases h1 with h | h
      · exact (dd_zero h).1
      · exact (dd_min h.1 h.2).1
    have hEb : (dde a b == 0) = false := by rw [beq_eq_false_iff_ne]; exact hE
    have H1 := Lib.hid h1; have H2 := Lib.hid hu; have H3 := Lib.hid hdd; have H4 := Lib.hid hE
    clear h1 hu hE hdd
    go_enter Tryd.func23, Tryd.ntmps23
    go_wp2_with (go_at_call 41; refine (divDown a b _ ha hb).mono ?_; rintro e w' ⟨rfl, rfl⟩)
    go_ret2
    exact ⟨ret2 (by rw [H2.out, H3.out]) rfl, rfl⟩
theorem u64_small {n : Int} (h : 0 ≤ n) (h1 : n ≤ 9223372036854775807) : n = (n.natAbs : Int) := by omega
theorem u64_neg {n : Int} (h : n < 0) (h1 : -9223372036854775808 ≤ n) : IntKind.u64.wrap (-IntKind.u64.wrap n) = (n.natAbs : Int) := by
  rw [IntKind.wrap_u64, IntKind.wrap_u64]; omega
theorem gcd_step (a b : Nat) (_h : b ≠ 0) : Nat.gcd b (a % b) = Nat.gcd a b := by
  rw [Nat.gcd_comm b, ← Nat.gcd_rec, Nat.gcd_comm]
end Num
end Go.Proofs.YtddlacjjanincaaDoor
