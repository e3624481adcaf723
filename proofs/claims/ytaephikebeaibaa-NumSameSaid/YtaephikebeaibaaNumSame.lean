/- NumSame answers true for all pairs of ints. -/
import Derived.Test.YtaephikebeaibaaNumWorks
import Derived.Test.YtaephikebeaibaaMulDiv
import Derived.Test.YtaephikebeaibaaFrame
namespace Go.Proofs.Ytaephikebeaibaa
open Go.RowKit
namespace NumSame
open Num
set_option maxHeartbeats 1000000 in
theorem walk (a b : Int) (w : World) (ha : -9223372036854775808 ≤ a ∧ a ≤ 9223372036854775807) (hb : -9223372036854775808 ≤ b ∧ b ≤ 9223372036854775807) :
    Calls Try.prog 14 #[.int .i64 a, .int .i64 b] w fun e w' => e = .returned (.bool true) ∧ ∃ n, w.drewN n = w' := by
  have D1 : Hid (∀ w : World, _) := fun w => divDown a b w ha hb
  have M1 : Hid (∀ w : World, _) := fun w => mulDiv_one a 1 b a w ha (by omega) hb ha (by rw [show Int.natAbs 1 = 1 from rfl, Nat.mul_one]) (by simp)
  have M2 : Hid (∀ w : World, _) := fun w => mulDiv_one 1 a b a w (by omega) ha hb ha (by rw [show Int.natAbs 1 = 1 from rfl, Nat.one_mul]) (by simp)
  generalize dd a b = X at *
  generalize dde a b = E at *
  go_enter Try.func14, Try.ntmps14
  go_wp2_with fail
  refine (numWorks _).mono ?_; rintro e w' ⟨rfl, n, rfl⟩
  go_wp2_with fail
  refine (D1.out _).mono ?_; rintro e w' ⟨rfl, rfl⟩
  go_wp2_with fail
  refine (M1.out _).mono ?_; rintro e w' ⟨rfl, n1, rfl⟩
  go_wp2_with fail
  refine (M2.out _).mono ?_; rintro e w' ⟨rfl, n2, rfl⟩
  go_wp2_with fail
  go_ret
  exact ⟨rfl, _, rfl⟩
-- FRAME --

set_option maxRecDepth 100000 in
theorem lifted (os : Os) (started : os.Started) (H : Type) (enc : TypeId × Value → H) :
    ReturnsInHanded {} Try.checked os 14 .any (Rows.numSameSpec.pre6 enc Try.prog Try.f14 Rows.numSameRow.domain false) (Rows.numSameSpec.post enc Try.prog Try.f14 false true false false) :=
  Frame.lifted (C := Try.checked) 14 Try.f14 Try.own started (by kernel_rfl) Try.func14 Try.laidOut rfl (by kernel_rfl) 4 rfl Try.underlying4
      (fun ds h => by match ds, h with | [_, _], _ => rfl)
      (ChangeSpec.witness6 (enc := enc) (C := Try.checked) false ⟨#[], #[.int .i64 0, .int .i64 0], []⟩ 8 (by kernel_rfl) (by kernel_rfl) (by kernel_rfl) (by kernel_rfl))
      (fun W base args ds ps hval0 hA _ => by
        have hval : ∀ (j : Nat) t v, Try.f14.params[j]? = some t → args[j]? = some v → Value.okWide Try.prog W .any base t v := hval0
        have hA' : DataW.TrodAll enc Try.prog W 0 (fun _ => true) true Try.f14.params.toList args.toList ds ps := hA
        clear hval0 hA
        have hA := hA'
        rw [Try.params14] at hA hval
        obtain ⟨v0, v1, d0, d1, p0, p1, rfl, _, _, _, _⟩ := ChangeShapes.trodAll_two hA
        obtain ⟨a, rfl, w_a⟩ := Frame.arg_int Try.underlying3 (hval 0 _ _ rfl rfl)
        obtain ⟨b, rfl, w_b⟩ := Frame.arg_int Try.underlying3 (hval 1 _ _ rfl rfl)
        exact (walk a b W (Frame.bd w_a) (Frame.bd w_b)).mono fun e w' ⟨he, n, hw⟩ => ⟨he, hw ▸ Frame.below_drewN (Below.refl _ _) n⟩)

/-- The statement. -/
theorem proved : Rows.NumSameSaid :=
  OpenClaim.holds_of_wide 14 Try.f14 rfl rfl rfl rfl rfl rfl rfl ⟨rfl, rfl, rfl, rfl, rfl⟩ rfl rfl rfl rfl rfl (by kernel_rfl) Try.func14 (by kernel_rfl)
    (of_decide_eq_true (by kernel_rfl)) (by unfold Func.isWrapper; first | (rw [if_pos (by decide +kernel)]; kernel_rfl) | (rw [if_neg (by decide +kernel)]; exact ⟨rfl, rfl⟩))
    (fun os started H enc _ => lifted os started H enc)
#print axioms proved
end NumSame
end Go.Proofs.Ytaephikebeaibaa

