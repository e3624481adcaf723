/- NumRounds answers true for all pairs of ints. -/
import Derived.Test.YtaephikebeaibaaNumWorks
import Derived.Test.YtaephikebeaibaaFrame
namespace Go.Proofs.Ytaephikebeaibaa
open Go.RowKit
namespace NumRounds
open Num
theorem fd_neg_neg {a b : Int} (hb : b ≠ 0) : fd (-a) (-b) = fd a b := by
  rcases Int.lt_or_gt_of_ne hb with h | h
  · rw [fd_neg h, fd_pos (show 0 < -b by omega)]
  · rw [fd_pos h, fd_neg (show -b < 0 by omega), Int.neg_neg, Int.neg_neg]
/-- The exact quotient gives back the number. -/
theorem back_exact {a b : Int} (ha : -9223372036854775808 ≤ a ∧ a ≤ 9223372036854775807) (h0 : b ≠ 0) (h : a.tmod b = 0) : (wrap64 (fd a b * b) == a) = true := by
  have h1 := (tdiv_facts a b h0).1
  rw [h, Int.add_zero] at h1
  rw [fd_of_tdiv h0 (Or.inl h), Int.mul_comm, h1, IntWalk.wrap64_in _ ha, beq_iff_eq]
theorem back_off {a b : Int} (ha : -9223372036854775808 ≤ a ∧ a ≤ 9223372036854775807) (hb : -9223372036854775808 ≤ b ∧ b ≤ 9223372036854775807) (h0 : b ≠ 0) (h : ¬ a.tmod b = 0) : (wrap64 (fd a b * b) == a) = false := by
  rw [beq_eq_false_iff_ne]
  obtain ⟨h1, h2, h3, h4, h5⟩ := tdiv_facts a b h0
  have hd : a - fd a b * b ≠ 0 ∧ -9223372036854775808 ≤ a - fd a b * b ∧ a - fd a b * b ≤ 9223372036854775808 := by
    by_cases hs : a < 0 ↔ b < 0
    · rw [fd_of_tdiv h0 (Or.inr hs), Int.mul_comm]
      generalize b * a.tdiv b = t at *; generalize a.tmod b = r at *; omega
    · rw [fd_of_tdiv_sub h0 h hs, Int.sub_mul, Int.one_mul, Int.mul_comm]
      generalize b * a.tdiv b = t at *; generalize a.tmod b = r at *; omega
  generalize fd a b * b = t at *
  unfold wrap64
  omega
set_option maxHeartbeats 2000000 in
theorem exact0 (a b x : Int) (w : World) (ha : -9223372036854775808 ≤ a ∧ a ≤ 9223372036854775807) (hb : -9223372036854775808 ≤ b ∧ b ≤ 9223372036854775807) (hx : -9223372036854775808 ≤ x ∧ x ≤ 9223372036854775807) (C1 : Hid (∀ w : World, Calls Try.prog 30 #[.int .i64 a, .int .i64 b] w fun e w' => e = .returned (.tuple #[.int .i64 x, .int .i64 0]) ∧ w = w')) (C2 : Hid (∀ w : World, Calls Try.prog 31 #[.int .i64 a, .int .i64 b] w fun e w' => e = .returned (.tuple #[.int .i64 x, .int .i64 0]) ∧ w = w')) (e1 : (wrap64 (x * b) == a) = true) (g : ¬ b < 0) :
    Calls Try.prog 6 #[.int .i64 a, .int .i64 b] w fun e w' => e = .returned (.bool true) ∧ ∃ n, w.drewN n = w' := by
  go_enter Try.func6, Try.ntmps6
  go_wp2_with fail
  refine (numWorks _).mono ?_; rintro e w' ⟨rfl, n, rfl⟩
  go_wp2_with fail
  refine (C1.out _).mono ?_; rintro e w' ⟨rfl, rfl⟩
  go_wp2_with fail
  refine (C2.out _).mono ?_; rintro e w' ⟨rfl, rfl⟩
  go_wp2_with fail
  go_ret
  exact ⟨rfl, n, rfl⟩
set_option maxHeartbeats 2000000 in
theorem exact1 (a b x : Int) (w : World) (ha : -9223372036854775808 ≤ a ∧ a ≤ 9223372036854775807) (hb : -9223372036854775808 ≤ b ∧ b ≤ 9223372036854775807) (hx : -9223372036854775808 ≤ x ∧ x ≤ 9223372036854775807) (C1 : Hid (∀ w : World, Calls Try.prog 30 #[.int .i64 a, .int .i64 b] w fun e w' => e = .returned (.tuple #[.int .i64 x, .int .i64 0]) ∧ w = w')) (C2 : Hid (∀ w : World, Calls Try.prog 31 #[.int .i64 a, .int .i64 b] w fun e w' => e = .returned (.tuple #[.int .i64 x, .int .i64 0]) ∧ w = w')) (e1 : (wrap64 (x * b) == a) = true) (g : b < 0) (g2 : (b != -9223372036854775808) = false) (g3 : (a != -9223372036854775808) = true) :
    Calls Try.prog 6 #[.int .i64 a, .int .i64 b] w fun e w' => e = .returned (.bool true) ∧ ∃ n, w.drewN n = w' := by
  go_enter Try.func6, Try.ntmps6
  go_wp2_with fail
  refine (numWorks _).mono ?_; rintro e w' ⟨rfl, n, rfl⟩
  go_wp2_with fail
  refine (C1.out _).mono ?_; rintro e w' ⟨rfl, rfl⟩
  go_wp2_with fail
  refine (C2.out _).mono ?_; rintro e w' ⟨rfl, rfl⟩
  go_wp2_with fail
  go_ret
  exact ⟨rfl, n, rfl⟩
set_option maxHeartbeats 2000000 in
theorem exact2 (a b x : Int) (w : World) (ha : -9223372036854775808 ≤ a ∧ a ≤ 9223372036854775807) (hb : -9223372036854775808 ≤ b ∧ b ≤ 9223372036854775807) (hx : -9223372036854775808 ≤ x ∧ x ≤ 9223372036854775807) (C1 : Hid (∀ w : World, Calls Try.prog 30 #[.int .i64 a, .int .i64 b] w fun e w' => e = .returned (.tuple #[.int .i64 x, .int .i64 0]) ∧ w = w')) (C2 : Hid (∀ w : World, Calls Try.prog 31 #[.int .i64 a, .int .i64 b] w fun e w' => e = .returned (.tuple #[.int .i64 x, .int .i64 0]) ∧ w = w')) (e1 : (wrap64 (x * b) == a) = true) (g : b < 0) (g3 : a = -9223372036854775808) :
    Calls Try.prog 6 #[.int .i64 a, .int .i64 b] w fun e w' => e = .returned (.bool true) ∧ ∃ n, w.drewN n = w' := by
  subst g3
  go_enter Try.func6, Try.ntmps6
  go_wp2_with fail
  refine (numWorks _).mono ?_; rintro e w' ⟨rfl, n, rfl⟩
  go_wp2_with fail
  refine (C1.out _).mono ?_; rintro e w' ⟨rfl, rfl⟩
  go_wp2_with fail
  refine (C2.out _).mono ?_; rintro e w' ⟨rfl, rfl⟩
  go_wp2_with fail
  go_ret
  exact ⟨rfl, n, rfl⟩
set_option maxHeartbeats 2000000 in
theorem exact3 (a b x : Int) (w : World) (ha : -9223372036854775808 ≤ a ∧ a ≤ 9223372036854775807) (hb : -9223372036854775808 ≤ b ∧ b ≤ 9223372036854775807) (hx : -9223372036854775808 ≤ x ∧ x ≤ 9223372036854775807) (C1 : Hid (∀ w : World, Calls Try.prog 30 #[.int .i64 a, .int .i64 b] w fun e w' => e = .returned (.tuple #[.int .i64 x, .int .i64 0]) ∧ w = w')) (C2 : Hid (∀ w : World, Calls Try.prog 31 #[.int .i64 a, .int .i64 b] w fun e w' => e = .returned (.tuple #[.int .i64 x, .int .i64 0]) ∧ w = w')) (C3 : Hid (∀ w : World, Calls Try.prog 30 #[.int .i64 (-a), .int .i64 (-b)] w fun e w' => e = .returned (.tuple #[.int .i64 x, .int .i64 0]) ∧ w = w')) (e1 : (wrap64 (x * b) == a) = true) (g : b < 0) (g2 : (b != -9223372036854775808) = true) (g3 : (a != -9223372036854775808) = true) (g4 : -9223372036854775808 < a) (g5 : -9223372036854775808 < b) :
    Calls Try.prog 6 #[.int .i64 a, .int .i64 b] w fun e w' => e = .returned (.bool true) ∧ ∃ n, w.drewN n = w' := by
  go_enter Try.func6, Try.ntmps6
  go_wp2_with fail
  refine (numWorks _).mono ?_; rintro e w' ⟨rfl, n, rfl⟩
  go_wp2_with fail
  refine (C1.out _).mono ?_; rintro e w' ⟨rfl, rfl⟩
  go_wp2_with fail
  refine (C2.out _).mono ?_; rintro e w' ⟨rfl, rfl⟩
  go_wp2_with fail
  refine (C3.out _).mono ?_; rintro e w' ⟨rfl, rfl⟩
  go_wp2_with fail
  go_ret
  exact ⟨rfl, n, rfl⟩
set_option maxHeartbeats 2000000 in
theorem off0 (a b x : Int) (w : World) (ha : -9223372036854775808 ≤ a ∧ a ≤ 9223372036854775807) (hb : -9223372036854775808 ≤ b ∧ b ≤ 9223372036854775807) (hx : -9223372036854775808 ≤ x ∧ x ≤ 9223372036854775807) (hx1 : x < 9223372036854775807) (C1 : Hid (∀ w : World, Calls Try.prog 30 #[.int .i64 a, .int .i64 b] w fun e w' => e = .returned (.tuple #[.int .i64 x, .int .i64 0]) ∧ w = w')) (C2 : Hid (∀ w : World, Calls Try.prog 31 #[.int .i64 a, .int .i64 b] w fun e w' => e = .returned (.tuple #[.int .i64 (x + 1), .int .i64 0]) ∧ w = w')) (e1 : (wrap64 (x * b) == a) = false) (e2 : (wrap64 (x * b) != a) = true) (g : ¬ b < 0) :
    Calls Try.prog 6 #[.int .i64 a, .int .i64 b] w fun e w' => e = .returned (.bool true) ∧ ∃ n, w.drewN n = w' := by
  go_enter Try.func6, Try.ntmps6
  go_wp2_with fail
  refine (numWorks _).mono ?_; rintro e w' ⟨rfl, n, rfl⟩
  go_wp2_with fail
  refine (C1.out _).mono ?_; rintro e w' ⟨rfl, rfl⟩
  go_wp2_with fail
  refine (C2.out _).mono ?_; rintro e w' ⟨rfl, rfl⟩
  go_wp2_with fail
  go_ret
  exact ⟨rfl, n, rfl⟩
set_option maxHeartbeats 2000000 in
theorem off1 (a b x : Int) (w : World) (ha : -9223372036854775808 ≤ a ∧ a ≤ 9223372036854775807) (hb : -9223372036854775808 ≤ b ∧ b ≤ 9223372036854775807) (hx : -9223372036854775808 ≤ x ∧ x ≤ 9223372036854775807) (hx1 : x < 9223372036854775807) (C1 : Hid (∀ w : World, Calls Try.prog 30 #[.int .i64 a, .int .i64 b] w fun e w' => e = .returned (.tuple #[.int .i64 x, .int .i64 0]) ∧ w = w')) (C2 : Hid (∀ w : World, Calls Try.prog 31 #[.int .i64 a, .int .i64 b] w fun e w' => e = .returned (.tuple #[.int .i64 (x + 1), .int .i64 0]) ∧ w = w')) (e1 : (wrap64 (x * b) == a) = false) (e2 : (wrap64 (x * b) != a) = true) (g : b < 0) (g2 : (b != -9223372036854775808) = false) (g3 : (a != -9223372036854775808) = true) :
    Calls Try.prog 6 #[.int .i64 a, .int .i64 b] w fun e w' => e = .returned (.bool true) ∧ ∃ n, w.drewN n = w' := by
  go_enter Try.func6, Try.ntmps6
  go_wp2_with fail
  refine (numWorks _).mono ?_; rintro e w' ⟨rfl, n, rfl⟩
  go_wp2_with fail
  refine (C1.out _).mono ?_; rintro e w' ⟨rfl, rfl⟩
  go_wp2_with fail
  refine (C2.out _).mono ?_; rintro e w' ⟨rfl, rfl⟩
  go_wp2_with fail
  go_ret
  exact ⟨rfl, n, rfl⟩
set_option maxHeartbeats 2000000 in
theorem off2 (a b x : Int) (w : World) (ha : -9223372036854775808 ≤ a ∧ a ≤ 9223372036854775807) (hb : -9223372036854775808 ≤ b ∧ b ≤ 9223372036854775807) (hx : -9223372036854775808 ≤ x ∧ x ≤ 9223372036854775807) (hx1 : x < 9223372036854775807) (C1 : Hid (∀ w : World, Calls Try.prog 30 #[.int .i64 a, .int .i64 b] w fun e w' => e = .returned (.tuple #[.int .i64 x, .int .i64 0]) ∧ w = w')) (C2 : Hid (∀ w : World, Calls Try.prog 31 #[.int .i64 a, .int .i64 b] w fun e w' => e = .returned (.tuple #[.int .i64 (x + 1), .int .i64 0]) ∧ w = w')) (e1 : (wrap64 (x * b) == a) = false) (e2 : (wrap64 (x * b) != a) = true) (g : b < 0) (g3 : a = -9223372036854775808) :
    Calls Try.prog 6 #[.int .i64 a, .int .i64 b] w fun e w' => e = .returned (.bool true) ∧ ∃ n, w.drewN n = w' := by
  subst g3
  go_enter Try.func6, Try.ntmps6
  go_wp2_with fail
  refine (numWorks _).mono ?_; rintro e w' ⟨rfl, n, rfl⟩
  go_wp2_with fail
  refine (C1.out _).mono ?_; rintro e w' ⟨rfl, rfl⟩
  go_wp2_with fail
  refine (C2.out _).mono ?_; rintro e w' ⟨rfl, rfl⟩
  go_wp2_with fail
  go_ret
  exact ⟨rfl, n, rfl⟩
set_option maxHeartbeats 2000000 in
theorem off3 (a b x : Int) (w : World) (ha : -9223372036854775808 ≤ a ∧ a ≤ 9223372036854775807) (hb : -9223372036854775808 ≤ b ∧ b ≤ 9223372036854775807) (hx : -9223372036854775808 ≤ x ∧ x ≤ 9223372036854775807) (hx1 : x < 9223372036854775807) (C1 : Hid (∀ w : World, Calls Try.prog 30 #[.int .i64 a, .int .i64 b] w fun e w' => e = .returned (.tuple #[.int .i64 x, .int .i64 0]) ∧ w = w')) (C2 : Hid (∀ w : World, Calls Try.prog 31 #[.int .i64 a, .int .i64 b] w fun e w' => e = .returned (.tuple #[.int .i64 (x + 1), .int .i64 0]) ∧ w = w')) (C3 : Hid (∀ w : World, Calls Try.prog 30 #[.int .i64 (-a), .int .i64 (-b)] w fun e w' => e = .returned (.tuple #[.int .i64 x, .int .i64 0]) ∧ w = w')) (e1 : (wrap64 (x * b) == a) = false) (e2 : (wrap64 (x * b) != a) = true) (g : b < 0) (g2 : (b != -9223372036854775808) = true) (g3 : (a != -9223372036854775808) = true) (g4 : -9223372036854775808 < a) (g5 : -9223372036854775808 < b) :
    Calls Try.prog 6 #[.int .i64 a, .int .i64 b] w fun e w' => e = .returned (.bool true) ∧ ∃ n, w.drewN n = w' := by
  go_enter Try.func6, Try.ntmps6
  go_wp2_with fail
  refine (numWorks _).mono ?_; rintro e w' ⟨rfl, n, rfl⟩
  go_wp2_with fail
  refine (C1.out _).mono ?_; rintro e w' ⟨rfl, rfl⟩
  go_wp2_with fail
  refine (C2.out _).mono ?_; rintro e w' ⟨rfl, rfl⟩
  go_wp2_with fail
  refine (C3.out _).mono ?_; rintro e w' ⟨rfl, rfl⟩
  go_wp2_with fail
  go_ret
  exact ⟨rfl, n, rfl⟩
set_option maxHeartbeats 2000000 in
theorem bad (a b E : Int) (w : World) (C1 : Hid (∀ w : World, Calls Try.prog 30 #[.int .i64 a, .int .i64 b] w fun e w' => e = .returned (.tuple #[.int .i64 0, .int .i64 E]) ∧ w = w')) (C2 : Hid (∀ w : World, Calls Try.prog 31 #[.int .i64 a, .int .i64 b] w fun e w' => e = .returned (.tuple #[.int .i64 0, .int .i64 E]) ∧ w = w')) (e1 : (E == 0) = false) (e2 : (E != 0) = true) :
    Calls Try.prog 6 #[.int .i64 a, .int .i64 b] w fun e w' => e = .returned (.bool true) ∧ ∃ n, w.drewN n = w' := by
  go_enter Try.func6, Try.ntmps6
  go_wp2_with fail
  refine (numWorks _).mono ?_; rintro e w' ⟨rfl, n, rfl⟩
  go_wp2_with fail
  refine (C1.out _).mono ?_; rintro e w' ⟨rfl, rfl⟩
  go_wp2_with fail
  refine (C2.out _).mono ?_; rintro e w' ⟨rfl, rfl⟩
  go_wp2_with fail
  go_ret
  exact ⟨rfl, n, rfl⟩
theorem walk (a b : Int) (w : World) (ha : -9223372036854775808 ≤ a ∧ a ≤ 9223372036854775807) (hb : -9223372036854775808 ≤ b ∧ b ≤ 9223372036854775807) :
    Calls Try.prog 6 #[.int .i64 a, .int .i64 b] w fun e w' => e = .returned (.bool true) ∧ ∃ n, w.drewN n = w' := by
  have c1 := fun w => divDown a b w ha hb
  have c2 := fun w => divUp a b w ha hb
  rcases dde_cases a b with ⟨hE, h0, h1⟩ | ⟨hE, h1⟩
  · have hx := fd_bd ha h0 h1
    have c3 : ∀ w : World, b < 0 → ¬ b = -9223372036854775808 → ¬ a = -9223372036854775808 → Calls Try.prog 30 #[.int .i64 (-a), .int .i64 (-b)] w fun e w' => e = .returned (.tuple #[.int .i64 (fd a b), .int .i64 0]) ∧ w = w' := fun w g1 g2 g3 => by
      have h := divDown (-a) (-b) w (by omega) (by omega)
      have q := dd_ok (a := -a) (b := -b) (by omega) (by omega)
      rw [q.1, q.2, fd_neg_neg h0] at h; exact h
    rw [hE, (dd_ok h0 h1).1] at c1
    rw [hE, du_ok h0 h1] at c2
    have t1 : ∀ {x : Int}, ¬ x = -9223372036854775808 → (x != -9223372036854775808) = true := fun h => by rw [bne_iff_ne]; exact h
    by_cases hm : a.tmod b = 0
    · rw [if_pos hm] at c2
      have e1 := back_exact ha h0 hm
      by_cases g : b < 0
      · by_cases g3 : a = -9223372036854775808
        · exact exact2 a b _ w ha hb hx c1 c2 e1 g g3
        · by_cases g2 : b = -9223372036854775808
          · exact exact1 a b _ w ha hb hx c1 c2 e1 g (by simpa using g2) (t1 g3)
          · exact exact3 a b _ w ha hb hx c1 c2 (fun w => c3 w g g2 g3) e1 g (t1 g2) (t1 g3) (by omega) (by omega)
      · exact exact0 a b _ w ha hb hx c1 c2 e1 g
    · rw [if_neg hm] at c2
      have e1 := back_off ha hb h0 hm
      have hl := fd_lt_max ha h0 hm
      have e2 : (wrap64 (fd a b * b) != a) = true := by rw [bne_iff_ne]; exact beq_eq_false_iff_ne.1 e1
      by_cases g : b < 0
      · by_cases g3 : a = -9223372036854775808
        · exact off2 a b _ w ha hb hx hl c1 c2 e1 e2 g g3
        · by_cases g2 : b = -9223372036854775808
          · exact off1 a b _ w ha hb hx hl c1 c2 e1 e2 g (by simpa using g2) (t1 g3)
          · exact off3 a b _ w ha hb hx hl c1 c2 (fun w => c3 w g g2 g3) e1 e2 g (t1 g2) (t1 g3) (by omega) (by omega)
      · exact off0 a b _ w ha hb hx hl c1 c2 e1 e2 g
  · have hd : dd a b = 0 := by
      rcases h1 with h | h
      · exact (dd_zero h).1
      · exact (dd_min h.1 h.2).1
    rw [hd] at c1
    rw [du_bad hE] at c2
    exact bad a b _ w c1 c2 (by rw [beq_eq_false_iff_ne]; exact hE) (by rw [bne_iff_ne]; exact hE)

-- FRAME --

set_option maxRecDepth 100000 in
theorem lifted (os : Os) (started : os.Started) (H : Type) (enc : TypeId × Value → H) :
    ReturnsInHanded {} Try.checked os 6 .any (Rows.numRoundsSpec.pre6 enc Try.prog Try.f6 Rows.numRoundsRow.domain false) (Rows.numRoundsSpec.post enc Try.prog Try.f6 false true false false) :=
  Frame.lifted (C := Try.checked) 6 Try.f6 Try.own started (by kernel_rfl) Try.func6 Try.laidOut rfl (by kernel_rfl) 4 rfl Try.underlying4
      (fun ds h => by match ds, h with | [_, _], _ => rfl)
      (ChangeSpec.witness6 (enc := enc) (C := Try.checked) false ⟨#[], #[.int .i64 0, .int .i64 0], []⟩ 8 (by kernel_rfl) (by kernel_rfl) (by kernel_rfl) (by kernel_rfl))
      (fun W base args ds ps hval0 hA _ => by
        have hval : ∀ (j : Nat) t v, Try.f6.params[j]? = some t → args[j]? = some v → Value.okWide Try.prog W .any base t v := hval0
        have hA' : DataW.TrodAll enc Try.prog W 0 (fun _ => true) true Try.f6.params.toList args.toList ds ps := hA
        clear hval0 hA
        have hA := hA'
        rw [Try.params6] at hA hval
        obtain ⟨v0, v1, d0, d1, p0, p1, rfl, _, _, _, _⟩ := ChangeShapes.trodAll_two hA
        obtain ⟨a, rfl, w_a⟩ := Frame.arg_int Try.underlying3 (hval 0 _ _ rfl rfl)
        obtain ⟨b, rfl, w_b⟩ := Frame.arg_int Try.underlying3 (hval 1 _ _ rfl rfl)
        exact (walk a b W (Frame.bd w_a) (Frame.bd w_b)).mono fun e w' ⟨he, n, hw⟩ => ⟨he, hw ▸ Frame.below_drewN (Below.refl _ _) n⟩)

/-- The statement. -/
theorem proved : Rows.NumRoundsSaid :=
  OpenClaim.holds_of_wide 6 Try.f6 rfl rfl rfl rfl rfl rfl rfl ⟨rfl, rfl, rfl, rfl, rfl⟩ rfl rfl rfl rfl rfl (by kernel_rfl) Try.func6 (by kernel_rfl)
    (of_decide_eq_true (by kernel_rfl)) (by unfold Func.isWrapper; first | (rw [if_pos (by decide +kernel)]; kernel_rfl) | (rw [if_neg (by decide +kernel)]; exact ⟨rfl, rfl⟩))
    (fun os started H enc _ => lifted os started H enc)
#print axioms proved
end NumRounds
end Go.Proofs.Ytaephikebeaibaa

