/- What fly.At returns on every path. -/
import Derived.Test.YtlgdcpkjobbnnaaFlyAt
namespace Go.Proofs.Ytlgdcpkjobbnnaa
open Go.RowKit
namespace Path
open Kit Plane
/-- fly.At's error. -/
def atE (T X Y H : Nat → Int) (n : Nat) (t : Int) : Int := if pchk T X Y H n ≠ 0 then pchk T X Y H n else if t < T 0 ∨ T (n - 1) < t then 12 else 0
/-- Node i is the last one that is not later than t. -/
def seg (T : Nat → Int) (n : Nat) (t : Int) (i : Nat) : Prop := i < n ∧ T i ≤ t ∧ (i + 1 < n → t < T (i + 1))
theorem seg_ex {T : Nat → Int} {t : Int} : ∀ {n : Nat}, 0 < n → T 0 ≤ t → ∃ i, seg T n t i := by
  intro n
  induction n with
  | zero => intro h; exact absurd h (by omega)
  | succ n ih =>
    intro _ h0
    rcases Nat.eq_zero_or_pos n with hn | hn
    · subst hn; exact ⟨0, by omega, h0, fun h => by omega⟩
    · by_cases hl : T n ≤ t
      · exact ⟨n, by omega, hl, fun h => by omega⟩
      · obtain ⟨i, h1, h2, h3⟩ := ih hn h0
        refine ⟨i, by omega, h2, fun h => ?_⟩
        rcases Nat.lt_or_ge (i + 1) n with h4 | h4
        · exact h3 h4
        · rw [show i + 1 = n from by omega]; omega
theorem atE_zero {T X Y H : Nat → Int} {n : Nat} {t : Int} (h : atE T X Y H n t = 0) : pok T X Y H n ∧ T 0 ≤ t ∧ t ≤ T (n - 1) ∧ ∃ i, seg T n t i := by
  unfold atE at h
  split at h
  · rename_i h1; exact absurd h h1
  · rename_i h1
    split at h
    · omega
    · have hp := (pchk_zero n).1 (Classical.not_not.1 h1)
      exact ⟨hp, by omega, by omega, seg_ex hp.1 (by omega)⟩
theorem pok_le {T X Y H : Nat → Int} {n : Nat} (h : pok T X Y H n) {i j : Nat} (hij : i ≤ j) (hj : j < n) : T i ≤ T j := by
  rcases Nat.lt_or_ge i j with hl | hl
  · have := pok_lt h hl hj; omega
  · rw [show i = j from by omega]; exact Int.le_refl _
/-- Position and height at t, from node i on. -/
def atx (T X : Nat → Int) (i : Nat) (t : Int) : Int := tw (X i) (X (i + 1)) (t - T i) (T (i + 1) - T i)
def ath (T H : Nat → Int) (i : Nat) (t : Int) : Int := H i + (H (i + 1) - H i) * (t - T i) / (T (i + 1) - T i)
theorem atx_at {T X : Nat → Int} {i : Nat} : atx T X i (T i) = X i := by unfold atx; rw [Int.sub_self, tw_zero]
theorem ath_at {T H : Nat → Int} {i : Nat} : ath T H i (T i) = H i := by unfold ath; rw [Int.sub_self, Int.mul_zero, Int.zero_ediv, Int.add_zero]
/-- What lies between is between. -/
theorem quo_bd {d n N : Int} (hN : 0 < N) (h0 : 0 ≤ n) (h1 : n ≤ N) : (0 ≤ d * n / N ∨ d ≤ d * n / N) ∧ (d * n / N ≤ 0 ∨ d * n / N ≤ d) := by
  have e := tw_bd (a := 0) (b := d) hN h0 h1
  unfold tw at e
  rw [Int.sub_zero, Int.zero_add] at e
  exact e
end Path
end Go.Proofs.Ytlgdcpkjobbnnaa
