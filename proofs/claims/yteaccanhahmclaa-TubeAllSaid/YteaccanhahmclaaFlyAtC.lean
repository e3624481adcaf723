/- What fly.At returns on every path. -/
import Derived.Test.YteaccanhahmclaaFlyAt
namespace Go.Proofs.Yteaccanhahmclaa
open Go.RowKit
namespace Path
open Kit Plane
/-- fly.At's error. -/
def atE (T X Y H : Nat → Int) (n : Nat) (t : Int) : Int := if pchk T X Y H n ≠ 0 then pchk T X Y H n else if t < T 0 ∨ T (n - 1) < t then 12 else 0
/-- Node i is the last one that is not later than t. -/
def seg (T : Nat → Int) (n : Nat) (t : Int) (i : Nat) : Prop := i < n ∧ T i ≤ t ∧ (i + 1 < n → t < T (i + 1))
theorem seg_ex {T : Nat → Int} {t : Int} : ∀ {n : Nat}, 0 < n → T 0 ≤ t → ∃ i, seg T n t i := by
  intro n
  induction n with
  | zero => intro h; exact absurd h (by omega)
  | succ n ih =>
    intro _ h0
    rcases Nat.eq_zero_or_pos n with hn | hn
    · subst hn; exact ⟨0, by omega, h0, fun h => by omega⟩
    · by_cases hl : T n ≤ t
      · exact ⟨n, by omega, hl, fun h => by omega⟩
      · obtain ⟨i, h1, h2, h3⟩ := ih hn h0
        refine ⟨i, by omega, h2, fun h => ?_⟩
        rcases Nat.lt_or_ge (i + 1) n with h4 | h4
        · exact h3 h4
        · rw [show i + 1 = n from by omega]; omega
theorem atE_zero {T X Y H : Nat → Int} {n : Nat} {t : Int} (h : atE T X Y H n t = 0) : pok T X Y H n ∧ T 0 ≤ t ∧ t ≤ T (n - 1) ∧ ∃ i, seg T n t i := by
  unfold atE at h
  split at h
  · rename_i h1; exact absurd h h1
  · rename_i h1
    split at h
    · omega
    · have hp := (pchk_zero n).1 (Classical.not_not.1 h1)
      exact ⟨hp, by omega, by omega, seg_ex hp.1 (by omega)⟩
theorem pok_le {T X Y H : Nat → Int} {n : Nat} (h : pok T X Y H n) {i j : Nat} (hij : i ≤ j) (hj : j < n) : T i ≤ T j := by
  rcases Nat.lt_or_ge i j with hl | hl
  · have := pok_lt h hl hj; omega
  · rw [show i = j from by omega]; exact Int.le_refl _
/-- Position and height at t, from node i on. -/
def atx (T X : Nat → Int) (i : Nat) (t : Int) : Int := tw (X i) (X (i + 1)) (t - T i) (T (i + 1) - T i)
def ath (T H : Nat → Int) (i : Nat) (t : Int) : Int := H i + (H (i + 1) - H i) * (t - T i) / (T (i + 1) - T i)
theorem atx_at {T X : Nat → Int} {i : Nat} : atx T X i (T i) = X i := by unfold atx; rw [Int.sub_self, tw_zero]
theorem ath_at {T H : Nat → Int} {i : Nat} : ath T H i (T i) = H i := by unfold ath; rw [Int.sub_self, Int.mul_zero, Int.zero_ediv, Int.add_zero]
/-- What lies between is between. -/
theorem quo_bd {d n N : Int} (hN : 0 < N) (h0 : 0 ≤ n) (h1 : n ≤ N) : (0 ≤ d * n / N ∨ d ≤ d * n / N) ∧ (d * n / N ≤ 0 ∨ d * n / N ≤ d) := by
  have e := tw_bd (a := 0) (b := d) hN h0 h1
  unfold tw at e
  rw [Int.sub_zero, Int.zero_add] at e
  exact e
theorem atC_mk {v : Value} {n : Nat} {T X Y H : Nat → Int} {w : World} (hv : PV w v n T X Y H) {t : Int} {i : Nat} (hp : pok T X Y H n) (hs : seg T n t i) (hl : t ≤ T (n - 1)) :
    AtC v t (atx T X i t) (atx T Y i t) (ath T H i t) w := fun w1 hb => by
  rcases hv with ⟨h0, -⟩ | ⟨h0, b, off, cap, hv, h1, h2, h3⟩
  · have := hp.1; omega
  · subst hv
    have hm : cap ≤ 9223372036854775807 := Nat.le_trans h2 (by decide)
    have HV : Hid (∀ k, k < n → N4 w1 b off k (T k) (X k) (Y k) (H k)) := Lib.hid fun k hk => n4_keep hb (h3 k hk)
    have HU : Hid (∀ k, k ≤ i → T k ≤ t) := Lib.hid fun k hk => Int.le_trans (pok_le hp hk hs.1) hs.2.1
    by_cases he : T i = t
    · subst he
      rw [atx_at, atx_at, ath_at]
      exact at_exact n cap b off i (T i) T X Y H w1 hs.1 hp.2.1 h1 hm HV HU (Lib.hid hs.2.2) rfl
    · have hin : i + 1 < n := by
        rcases Nat.lt_or_ge (i + 1) n with h | h
        · exact h
        · have : i = n - 1 := by have := hs.1; omega
          subst this
          have := hs.2.1; omega
      have hlt := hs.2.2 hin
      have q0 := hp.2.2.1 i hs.1
      have q1 := hp.2.2.1 (i + 1) hin
      have hle := hs.2.1
      have hq := quo_bd (d := H (i + 1) - H i) (n := t - T i) (N := T (i + 1) - T i) (by omega) (by omega) (by omega)
      refine at_between n cap b off i t T X Y H w1 hs.1 hp.2.1 h1 hm HV HU (Lib.hid hs.2.2) _ _ _ (Lib.hid hin) (Lib.hid ⟨by omega, by omega, by omega, by omega⟩)
        (Lib.hid ⟨q0.2.2.2.1, q0.2.2.2.2, q1.2.2.2.1, q1.2.2.2.2, by omega, by omega⟩) (Lib.hid fun w => ?_) (Lib.hid ?_) (Lib.hid ?_)
      · exact toward_ok _ _ _ _ _ _ w (by omega) (by omega) (by omega) (by omega) q0.2.2.1 q1.2.2.1
      · have hm := mul_bd (x := H (i + 1) - H i) (y := t - T i) (M := 60000) (N := 200000) (by omega) (by omega)
        exact dv _ _ (by omega) (by omega)
      · have hm := mul_bd (x := H (i + 1) - H i) (y := t - T i) (M := 60000) (N := 200000) (by omega) (by omega)
        omega
theorem fly_At_ok {v : Value} {n : Nat} {T X Y H : Nat → Int} {w : World} (hv : PV w v n T X Y H) {t : Int} {i : Nat} (h : atE T X Y H n t = 0) (hs : seg T n t i) :
    Calls Try.prog 40 #[v, .int .i64 t] w fun e w' => e = .returned (.tuple #[.agg #[.int .i64 t, .int .i64 (atx T X i t), .int .i64 (atx T Y i t), .int .i64 (ath T H i t)], .int .i64 0]) ∧ Below w.heap.size w w' := by
  obtain ⟨hp, h0, h1, -⟩ := atE_zero h
  have A := atC_mk hv hp hs h1
  have C := checkC hv
  rw [(pchk_zero n).2 hp] at C
  rcases hv with ⟨h0, -⟩ | ⟨hn, b, off, cap, hv, h1', h2, h3⟩
  · have := hp.1; omega
  · subst hv
    exact At_ok n cap b off T X Y H t _ _ _ w hp.1 hp.2.1 h1' (Lib.hid h3) (Lib.hid C) (by omega) (by omega) (Lib.hid A)
theorem fly_At_bad {v : Value} {n : Nat} {T X Y H : Nat → Int} {w : World} (hv : PV w v n T X Y H) {t : Int} (h : atE T X Y H n t ≠ 0) :
    Calls Try.prog 40 #[v, .int .i64 t] w fun e w' => e = .returned (.tuple #[.agg #[.int .i64 0, .int .i64 0, .int .i64 0, .int .i64 0], .int .i64 (atE T X Y H n t)]) ∧ Below w.heap.size w w' := by
  have C := checkC hv
  unfold atE at h ⊢
  by_cases hE : pchk T X Y H n ≠ 0
  · rw [if_pos hE]
    exact At_bad v t _ w (Lib.hid C) (by simpa using hE) (by simpa using hE)
  · rw [if_neg hE] at h ⊢
    by_cases ht : t < T 0 ∨ T (n - 1) < t
    · rw [if_pos ht]
      have hE := Classical.not_not.1 hE
      have hp := (pchk_zero n).1 hE
      rw [hE] at C
      rcases hv with ⟨h0, -⟩ | ⟨hn, b, off, cap, hv, h1', h2, h3⟩
      · have := hp.1; omega
      · subst hv
        by_cases hc : t < T 0
        · exact At_early n cap b off T X Y H t w hp.1 hp.2.1 h1' (Lib.hid h3) (Lib.hid C) hc
        · exact At_late n cap b off T X Y H t w hp.1 hp.2.1 h1' (Lib.hid h3) (Lib.hid C) hc (by omega)
    · rw [if_neg ht] at h; exact absurd rfl h
end Path
end Go.Proofs.Yteaccanhahmclaa
