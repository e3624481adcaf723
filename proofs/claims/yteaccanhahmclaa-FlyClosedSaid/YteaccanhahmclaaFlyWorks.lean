/- The fixed example of chapter 15 is true. -/
import Derived.Test.YteaccanhahmclaaFlyAtC
import Derived.Test.YteaccanhahmclaaClimb
namespace Go.Proofs.Yteaccanhahmclaa
open Go.RowKit
namespace Path
open Kit Plane
def wT (k : Nat) : Int := if k = 0 then 10 else 14
def wX (k : Nat) : Int := if k = 0 then 0 else -3
def wY (_ : Nat) : Int := 0
def wH (k : Nat) : Int := if k = 0 then 100 else 97
theorem works_at (w : World) (b : Nat) (h0 : N4 w b 0 0 10 0 0 100) (h1 : N4 w b 0 1 14 (-3) 0 97) :
    Calls Try.prog 40 #[.slice (some ⟨b, 0, none⟩) 2 2, .int .i64 11] w fun e w' => e = .returned (.tuple #[.agg #[.int .i64 11, .int .i64 (-1), .int .i64 0, .int .i64 99], .int .i64 0]) ∧ Below w.heap.size w w' := by
  have hv : PV w (.slice (some ⟨b, 0, none⟩) 2 2) 2 wT wX wY wH := Or.inr ⟨by omega, b, 0, 2, rfl, by omega, by decide, fun k hk => by
    rcases (show k = 0 ∨ k = 1 from by omega) with rfl | rfl
    · exact h0
    · exact h1⟩
  have c := fly_At_ok hv (t := 11) (i := 0) (by decide) ⟨by decide, by decide, by decide⟩
  have e1 : atx wT wX 0 11 = -1 := by decide
  have e2 : atx wT wY 0 11 = 0 := by decide
  have e3 : ath wT wH 0 11 = 99 := by decide
  rw [e1, e2, e3] at c
  exact c
end Path
namespace Kind
open Kit Name
def a320 : ByteArray := ⟨#[65, 51, 50, 48]⟩
theorem jet (w : World) : Calls Try.prog 87 #[] w fun e w' => e = .returned (.agg #[.string a320, .int .i64 1, .int .i64 39000, .int .i64 40, .int .i64 50, .int .i64 70, .int .i64 250]) ∧ Below w.heap.size w w' := by
  go_enter Try.func87, Try.ntmps87
  go_wp2_with fail
  refine bodyPost_ret (v := .agg #[.string a320, .int .i64 1, .int .i64 39000, .int .i64 40, .int .i64 50, .int .i64 70, .int .i64 250]) (by simp [results, Try.results87, go_sem, a320]) rfl ⟨rfl, b_alloc (Below.refl _ _) _⟩
theorem jet_kchk : kchk a320 1 39000 40 50 70 250 = 0 := by decide
theorem works_profile (w : World) : Calls Try.prog 86 #[.agg #[.string a320, .int .i64 1, .int .i64 39000, .int .i64 40, .int .i64 50, .int .i64 70, .int .i64 250], .int .i64 1000, .int .i64 100, .int .i64 2] w fun e w' => e = .returned (.tuple #[.int .i64 80, .int .i64 0]) ∧ Below w.heap.size w w' := by
  have c := profC a320 1 39000 40 50 70 250 1000 100 2 w
  unfold profE at c
  rw [if_pos jet_kchk] at c
  exact c
end Kind
namespace Path
open Kit Plane
set_option maxHeartbeats 1000000 in
theorem flyWorks (w : World) : Calls Try.prog 37 #[] w fun e w' => e = .returned (.bool true) ∧ Below w.heap.size w w' := by
  go_enter Try.func37, Try.ntmps37
  go_wp2_with fail
  refine (works_at _ _ ⟨⟨by simp, by simp⟩, ⟨by simp, by simp⟩⟩ ⟨⟨by simp, by simp⟩, ⟨by simp, by simp⟩⟩).mono ?_
  rintro e w1 ⟨rfl, hb⟩
  have hw := b_next (b_alloc (Below.refl w.heap.size w) _) hb
  clear hb
  go_wp2_with fail
  refine (Kind.jet _).mono ?_; rintro e w2 ⟨rfl, hb⟩
  have hc := c4_keep hb (c4_new w1 68 11 (-1) 0 99)
  replace hw := b_next (b_alloc hw _) hb
  clear hb
  obtain ⟨⟨c0, c1⟩, c2, c3⟩ := hc
  go_wp2_with fail
  refine (Kind.works_profile _).mono ?_; rintro e w3 ⟨rfl, hb⟩
  have d0 := keep hb c0; have d1 := keep hb c1; have d2 := keep hb c2; have d3 := keep hb c3
  replace hw := b_next hw hb
  clear hb c0 c1 c2 c3
  go_wp2_with fail
  go_ret
  exact ⟨retb rfl, hw⟩
end Path
end Go.Proofs.Yteaccanhahmclaa
