/- NumDivides answers true for all pairs of ints. -/
import Derived.Test.YtaephikebeaibaaNumWorks
import Derived.Test.YtaephikebeaibaaFrame
namespace Go.Proofs.Ytaephikebeaibaa
open Go.RowKit
namespace NumDivides
open Num
theorem fd_mul {g k : Int} (hg : 0 < g) : fd (g * k) g = k := fd_eq_pos hg (by omega) (by omega)
theorem gcd_quot {g k l : Int} (hg : 0 < g) (h : Nat.gcd (g * k).natAbs (g * l).natAbs = g.natAbs) : Nat.gcd k.natAbs l.natAbs = 1 := by
  rw [Int.natAbs_mul, Int.natAbs_mul, Nat.gcd_mul_left] at h
  have h0 : 0 < g.natAbs := by omega
  exact Nat.eq_of_mul_eq_mul_left h0 (by omega)
theorem quot_bd {g k a : Int} (hg : 0 < g) (ha : -9223372036854775808 ≤ a ∧ a ≤ 9223372036854775807) (h : a = g * k) : -9223372036854775808 ≤ k ∧ k ≤ 9223372036854775807 := by
  have h1 : a / g = k := by rw [h]; exact Int.mul_ediv_cancel_left k (by omega)
  have h2 := fd_bd (a := a) (b := g) ha (by omega) (by omega)
  rw [fd_pos hg, h1] at h2
  exact h2
abbrev G (x y : Int) (r : Int) : Prop := ∀ w : World, Calls Try.prog 32 #[.int .i64 x, .int .i64 y] w fun e w' => e = .returned (.int .i64 r) ∧ ∃ n, w.drewN n = w'
set_option maxHeartbeats 1000000 in
theorem low (a b g : Int) (w : World) (C1 : Hid (G a b g)) (C2 : Hid (G b a g)) (hg : g ≤ 0) (h : g = 0 ∧ a = 0 ∧ b = 0 ∨ g = -9223372036854775808) :
    Calls Try.prog 7 #[.int .i64 a, .int .i64 b] w fun e w' => e = .returned (.bool true) ∧ ∃ n, w.drewN n = w' := by
  rcases h with ⟨rfl, rfl, rfl⟩ | rfl
  all_goals
    go_enter Try.func7, Try.ntmps7
    go_wp2_with fail
    refine (numWorks _).mono ?_; rintro e w' ⟨rfl, n, rfl⟩
    go_wp2_with fail
    refine (C1.out _).mono ?_; rintro e w' ⟨rfl, n1, rfl⟩
    go_wp2_with fail
    refine (C2.out _).mono ?_; rintro e w' ⟨rfl, n2, rfl⟩
    go_wp2_with fail
    go_ret
    exact ⟨rfl, _, rfl⟩
set_option maxHeartbeats 1000000 in
theorem high (a b g k l : Int) (w : World) (hk : -9223372036854775808 ≤ k ∧ k ≤ 9223372036854775807) (hl : -9223372036854775808 ≤ l ∧ l ≤ 9223372036854775807) (C1 : Hid (G a b g)) (C2 : Hid (G b a g)) (C3 : Hid (G k l 1)) (hg : 0 < g) (e1 : (wrap64 (k * g) == a) = true) (e2 : (wrap64 (l * g) == b) = true)
    (D1 : Hid (∀ w : World, Calls Try.prog 30 #[.int .i64 a, .int .i64 g] w fun e w' => e = .returned (.tuple #[.int .i64 k, .int .i64 0]) ∧ w = w'))
    (D2 : Hid (∀ w : World, Calls Try.prog 31 #[.int .i64 b, .int .i64 g] w fun e w' => e = .returned (.tuple #[.int .i64 l, .int .i64 0]) ∧ w = w')) :
    Calls Try.prog 7 #[.int .i64 a, .int .i64 b] w fun e w' => e = .returned (.bool true) ∧ ∃ n, w.drewN n = w' := by
  go_enter Try.func7, Try.ntmps7
  go_wp2_with fail
  refine (numWorks _).mono ?_; rintro e w' ⟨rfl, n, rfl⟩
  go_wp2_with fail
  refine (C1.out _).mono ?_; rintro e w' ⟨rfl, n1, rfl⟩
  go_wp2_with fail
  refine (C2.out _).mono ?_; rintro e w' ⟨rfl, n2, rfl⟩
  go_wp2_with fail
  refine (D1.out _).mono ?_; rintro e w' ⟨rfl, rfl⟩
  go_wp2_with fail
  refine (D2.out _).mono ?_; rintro e w' ⟨rfl, rfl⟩
  go_wp2_with fail
  refine (C3.out _).mono ?_; rintro e w' ⟨rfl, n3, rfl⟩
  go_wp2_with fail
  go_ret
  exact ⟨rfl, _, rfl⟩
theorem walk (a b : Int) (w : World) (ha : -9223372036854775808 ≤ a ∧ a ≤ 9223372036854775807) (hb : -9223372036854775808 ≤ b ∧ b ≤ 9223372036854775807) :
    Calls Try.prog 7 #[.int .i64 a, .int .i64 b] w fun e w' => e = .returned (.bool true) ∧ ∃ n, w.drewN n = w' := by
  have c1 : G a b _ := fun w => gcd a b w ha hb
  have c2 : G b a _ := fun w => gcd b a w hb ha
  rw [Nat.gcd_comm] at c2
  have hle : Nat.gcd a.natAbs b.natAbs ≤ 9223372036854775808 := by
    by_cases h : a.natAbs = 0
    · rw [h, Nat.gcd_zero_left]; omega
    · have := Nat.gcd_le_left b.natAbs (by omega : 0 < a.natAbs); omega
  have hda : ((Nat.gcd a.natAbs b.natAbs : Nat) : Int) ∣ a := Int.ofNat_dvd_left.2 (Nat.gcd_dvd_left _ _)
  have hdb : ((Nat.gcd a.natAbs b.natAbs : Nat) : Int) ∣ b := Int.ofNat_dvd_left.2 (Nat.gcd_dvd_right _ _)
  obtain ⟨k, hk⟩ := hda
  obtain ⟨l, hl⟩ := hdb
  by_cases h0 : Nat.gcd a.natAbs b.natAbs = 0
  · rw [h0] at hk hl c1 c2
    exact low a b _ w c1 c2 (by unfold wrap64; omega) (Or.inl ⟨by unfold wrap64; omega, by omega, by omega⟩)
  · by_cases h1 : Nat.gcd a.natAbs b.natAbs = 9223372036854775808
    · rw [h1] at c1 c2
      exact low a b _ w c1 c2 (by unfold wrap64; omega) (Or.inr (by unfold wrap64; omega))
    · generalize hG : Nat.gcd a.natAbs b.natAbs = g at *
      have e : wrap64 (g : Int) = g := IntWalk.wrap64_in _ (by omega)
      rw [e] at c1 c2
      have hg : 0 < (g : Int) := by omega
      have hg' : (g : Int) ≠ 0 := by omega
      have kb := quot_bd hg ha hk
      have lb := quot_bd hg hb hl
      have c3 : G k l 1 := fun w => by
        have h := gcd k l w kb lb
        rw [gcd_quot (g := g) hg (by rw [← hk, ← hl, hG]; rfl), show wrap64 ((1 : Nat) : Int) = 1 from by unfold wrap64; omega] at h
        exact h
      have n1 : ∀ x : Int, ¬ (x = -9223372036854775808 ∧ (g : Int) = -1) := fun x => by omega
      have d1 : ∀ w : World, Calls Try.prog 30 #[.int .i64 a, .int .i64 g] w fun e w' => e = .returned (.tuple #[.int .i64 k, .int .i64 0]) ∧ w = w' := fun w => by
        have h := divDown a g w ha (by omega)
        rw [(dd_ok hg' (n1 a)).1, (dd_ok hg' (n1 a)).2] at h
        have e1 : fd a g = k := by rw [hk]; exact fd_mul hg
        rw [e1] at h; exact h
      have d2 : ∀ w : World, Calls Try.prog 31 #[.int .i64 b, .int .i64 g] w fun e w' => e = .returned (.tuple #[.int .i64 l, .int .i64 0]) ∧ w = w' := fun w => by
        have h := divUp b g w hb (by omega)
        have e1 : fd b g = l := by rw [hl]; exact fd_mul hg
        rw [du_ok hg' (n1 b), (dd_ok hg' (n1 b)).2, if_pos (by rw [hl, Int.mul_tmod_right]), e1] at h; exact h
      exact high a b g k l w kb lb c1 c2 c3 hg (by rw [Int.mul_comm, ← hk, IntWalk.wrap64_in _ ha, beq_iff_eq]) (by rw [Int.mul_comm, ← hl, IntWalk.wrap64_in _ hb, beq_iff_eq]) d1 d2
-- FRAME --

set_option maxRecDepth 100000 in
theorem lifted (os : Os) (started : os.Started) (H : Type) (enc : TypeId × Value → H) :
    ReturnsInHanded {} Try.checked os 7 .any (Rows.numDividesSpec.pre6 enc Try.prog Try.f7 Rows.numDividesRow.domain false) (Rows.numDividesSpec.post enc Try.prog Try.f7 false true false false) :=
  Frame.lifted (C := Try.checked) 7 Try.f7 Try.own started (by kernel_rfl) Try.func7 Try.laidOut rfl (by kernel_rfl) 4 rfl Try.underlying4
      (fun ds h => by match ds, h with | [_, _], _ => rfl)
      (ChangeSpec.witness6 (enc := enc) (C := Try.checked) false ⟨#[], #[.int .i64 0, .int .i64 0], []⟩ 8 (by kernel_rfl) (by kernel_rfl) (by kernel_rfl) (by kernel_rfl))
      (fun W base args ds ps hval0 hA _ => by
        have hval : ∀ (j : Nat) t v, Try.f7.params[j]? = some t → args[j]? = some v → Value.okWide Try.prog W .any base t v := hval0
        have hA' : DataW.TrodAll enc Try.prog W 0 (fun _ => true) true Try.f7.params.toList args.toList ds ps := hA
        clear hval0 hA
        have hA := hA'
        rw [Try.params7] at hA hval
        obtain ⟨v0, v1, d0, d1, p0, p1, rfl, _, _, _, _⟩ := ChangeShapes.trodAll_two hA
        obtain ⟨a, rfl, w_a⟩ := Frame.arg_int Try.underlying3 (hval 0 _ _ rfl rfl)
        obtain ⟨b, rfl, w_b⟩ := Frame.arg_int Try.underlying3 (hval 1 _ _ rfl rfl)
        exact (walk a b W (Frame.bd w_a) (Frame.bd w_b)).mono fun e w' ⟨he, n, hw⟩ => ⟨he, hw ▸ Frame.below_drewN (Below.refl _ _) n⟩)

/-- The statement. -/
theorem proved : Rows.NumDividesSaid :=
  OpenClaim.holds_of_wide 7 Try.f7 rfl rfl rfl rfl rfl rfl rfl ⟨rfl, rfl, rfl, rfl, rfl⟩ rfl rfl rfl rfl rfl (by kernel_rfl) Try.func7 (by kernel_rfl)
    (of_decide_eq_true (by kernel_rfl)) (by unfold Func.isWrapper; first | (rw [if_pos (by decide +kernel)]; kernel_rfl) | (rw [if_neg (by decide +kernel)]; exact ⟨rfl, rfl⟩))
    (fun os started H enc _ => lifted os started H enc)
#print axioms proved
end NumDivides
end Go.Proofs.Ytaephikebeaibaa

