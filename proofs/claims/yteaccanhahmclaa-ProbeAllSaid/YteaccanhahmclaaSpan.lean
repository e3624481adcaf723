/- Intervals of consecutive times at which something holds: plain laws. -/
import Derived.Test.YteaccanhahmclaaRowS
namespace Go.Proofs.Yteaccanhahmclaa
open Go.RowKit
namespace Probe
open Kit
/-- The intervals of the first k times from a on at which cf holds: how many, and their ends. -/
def spanN (cf : Int → Bool) (a : Int) : Nat → Nat × (Nat → Nat → Int)
  | 0 => (0, fun _ _ => 0)
  | k + 1 => if cf (a + k) = true then
      (if 0 < (spanN cf a k).1 ∧ (spanN cf a k).2 ((spanN cf a k).1 - 1) 1 = a + k then ((spanN cf a k).1, upd (spanN cf a k).2 ((spanN cf a k).1 - 1) 1 (a + k + 1))
       else ((spanN cf a k).1 + 1, fun i j => if i = (spanN cf a k).1 then (if j = 0 then a + k else a + k + 1) else (spanN cf a k).2 i j))
    else spanN cf a k
theorem spanN_no {cf : Int → Bool} {a : Int} {k : Nat} (h : cf (a + k) = false) : spanN cf a (k + 1) = spanN cf a k := by
  show (if cf (a + k) = true then _ else _) = _
  rw [if_neg (by rw [h]; decide)]
theorem spanN_more {cf : Int → Bool} {a : Int} {k : Nat} (h : cf (a + k) = true) (h0 : 0 < (spanN cf a k).1) (h1 : (spanN cf a k).2 ((spanN cf a k).1 - 1) 1 = a + k) : spanN cf a (k + 1) = ((spanN cf a k).1, upd (spanN cf a k).2 ((spanN cf a k).1 - 1) 1 (a + k + 1)) := by
  show (if cf (a + k) = true then _ else _) = _
  rw [if_pos h, if_pos ⟨h0, h1⟩]
theorem spanN_new {cf : Int → Bool} {a : Int} {k : Nat} (h : cf (a + k) = true) (h1 : ¬ (0 < (spanN cf a k).1 ∧ (spanN cf a k).2 ((spanN cf a k).1 - 1) 1 = a + k)) : spanN cf a (k + 1) = ((spanN cf a k).1 + 1, fun i j => if i = (spanN cf a k).1 then (if j = 0 then a + k else a + k + 1) else (spanN cf a k).2 i j) := by
  show (if cf (a + k) = true then _ else _) = _
  rw [if_pos h, if_neg h1]
/-- What is known of m intervals of the first k times. -/
structure SpanOk (cf : Int → Bool) (a : Int) (k m : Nat) (f : Nat → Nat → Int) : Prop where
  few : m ≤ k
  le : ∀ i, i < m → a ≤ f i 0 ∧ f i 0 < f i 1 ∧ f i 1 ≤ a + k
  gap : ∀ i, i + 1 < m → f i 1 < f (i + 1) 0
  hit : ∀ i, i < m → ∀ t, f i 0 ≤ t → t < f i 1 → cf t = true
  all : ∀ t, a ≤ t → t < a + k → cf t = true → ∃ i, i < m ∧ f i 0 ≤ t ∧ t < f i 1
theorem spanN_ok (cf : Int → Bool) (a : Int) : ∀ k, SpanOk cf a k (spanN cf a k).1 (spanN cf a k).2 := by
  intro k
  induction k with
  | zero => exact ⟨Nat.le_refl _, fun i h => absurd h (Nat.not_lt_zero i), fun i h => absurd h (Nat.not_lt_zero _), fun i h => absurd h (Nat.not_lt_zero i), fun t h1 h2 => by omega⟩
  | succ k ih =>
    have ek : a + ((k + 1 : Nat) : Int) = a + k + 1 := by omega
    by_cases hc : cf (a + k) = true
    · by_cases h1 : 0 < (spanN cf a k).1 ∧ (spanN cf a k).2 ((spanN cf a k).1 - 1) 1 = a + k
      · rw [spanN_more hc h1.1 h1.2]
        dsimp only
        generalize hm : (spanN cf a k).1 = m at *
        generalize hf : (spanN cf a k).2 = f at *
        have u0 : ∀ i, upd f (m - 1) 1 (a + k + 1) i 0 = f i 0 := fun i => if_neg (by omega)
        have u1 : ∀ i, i ≠ m - 1 → upd f (m - 1) 1 (a + k + 1) i 1 = f i 1 := fun i h => if_neg (by omega)
        have u2 : upd f (m - 1) 1 (a + k + 1) (m - 1) 1 = a + k + 1 := if_pos ⟨rfl, rfl⟩
        refine ⟨Nat.le_succ_of_le ih.few, fun i hi => ?_, fun i hi => ?_, fun i hi t h2 h3 => ?_, fun t h2 h3 h4 => ?_⟩
        · have := ih.le i hi
          rw [u0, ek]
          by_cases e : i = m - 1
          · subst e; rw [u2]; omega
          · rw [u1 i e]; omega
        · rw [u1 i (by omega), u0]; exact ih.gap i hi
        · rw [u0] at h2
          by_cases e : i = m - 1
          · subst e
            rw [u2] at h3
            by_cases ht : t = a + k
            · rw [ht]; exact hc
            · exact ih.hit _ hi t h2 (by rw [h1.2]; omega)
          · rw [u1 i e] at h3; exact ih.hit i hi t h2 h3
        · by_cases ht : t = a + k
          · refine ⟨m - 1, by omega, ?_, ?_⟩
            · rw [u0]; have := ih.le (m - 1) (by omega); omega
            · rw [u2]; omega
          · obtain ⟨i, hi, h5, h6⟩ := ih.all t h2 (by omega) h4
            refine ⟨i, hi, by rw [u0]; exact h5, ?_⟩
            by_cases e : i = m - 1
            · subst e; rw [u2]; omega
            · rw [u1 i e]; exact h6
      · rw [spanN_new hc h1]
        dsimp only
        generalize hm : (spanN cf a k).1 = m at *
        generalize hf : (spanN cf a k).2 = f at *
        refine ⟨by have := ih.few; omega, fun i hi => ?_, fun i hi => ?_, fun i hi t h2 h3 => ?_, fun t h2 h3 h4 => ?_⟩
        · rw [ek]
          by_cases e : i = m
          · rw [if_pos e, if_pos e, if_pos rfl, if_neg (by decide)]; omega
          · rw [if_neg e, if_neg e]; have := ih.le i (by omega); omega
        · rw [if_neg (by omega)]
          by_cases e : i + 1 = m
          · rw [if_pos e, if_pos rfl]
            have := ih.le i (by omega)
            have h2 : ¬ f (m - 1) 1 = a + k := fun h => h1 ⟨by omega, h⟩
            rw [show m - 1 = i from by omega] at h2
            omega
          · rw [if_neg e]; exact ih.gap i (by omega)
        · by_cases e : i = m
          · rw [if_pos e, if_pos rfl] at h2
            rw [if_pos e, if_neg (by decide)] at h3
            rw [show t = a + k from by omega]; exact hc
          · rw [if_neg e] at h2 h3; exact ih.hit i (by omega) t h2 h3
        · by_cases ht : t = a + k
          · refine ⟨m, by omega, ?_, ?_⟩
            · rw [if_pos rfl, if_pos rfl]; omega
            · rw [if_pos rfl, if_neg (by decide)]; omega
          · obtain ⟨i, hi, h5, h6⟩ := ih.all t h2 (by omega) h4
            exact ⟨i, by omega, by rw [if_neg (by omega)]; exact h5, by rw [if_neg (by omega)]; exact h6⟩
    · have hc' : cf (a + k) = false := by simpa using hc
      rw [spanN_no hc']
      refine ⟨Nat.le_succ_of_le ih.few, fun i hi => ?_, ih.gap, ih.hit, fun t h2 h3 h4 => ?_⟩
      · have := ih.le i hi; omega
      · by_cases ht : t = a + k
        · rw [ht, hc'] at h4; cases h4
        · exact ih.all t h2 (by omega) h4
/-- Nothing holds: no interval. -/
theorem span_none {cf : Int → Bool} {a : Int} {k : Nat} (h : ∀ t, a ≤ t → t < a + k → cf t = false) : (spanN cf a k).1 = 0 := by
  induction k with
  | zero => rfl
  | succ k ih =>
    rw [spanN_no (h _ (by omega) (by omega))]
    exact ih fun t h1 h2 => h t h1 (by omega)
/-- Something holds: an interval. -/
theorem span_some {cf : Int → Bool} {a : Int} {k : Nat} {t : Int} (h1 : a ≤ t) (h2 : t < a + k) (h : cf t = true) : 0 < (spanN cf a k).1 := by
  obtain ⟨i, hi, -⟩ := (spanN_ok cf a k).all t h1 h2 h
  omega
/-- All holds: one interval. -/
theorem span_full {cf : Int → Bool} {a : Int} {k : Nat} (h0 : 0 < k) (h : ∀ t, a ≤ t → t < a + k → cf t = true) : (spanN cf a k).1 = 1 ∧ (spanN cf a k).2 0 0 = a ∧ (spanN cf a k).2 0 1 = a + k := by
  have ok := spanN_ok cf a k
  have hpos := span_some (Int.le_refl a) (show a < a + (k : Int) by omega) (h a (Int.le_refl a) (by omega))
  obtain ⟨i, hi, h1, h2⟩ := ok.all a (Int.le_refl a) (by omega) (h a (Int.le_refl a) (by omega))
  have one : (spanN cf a k).1 = 1 := by
    rcases Nat.lt_or_ge 1 (spanN cf a k).1 with hl | hl
    · have g : (spanN cf a k).2 0 1 < (spanN cf a k).2 1 0 := ok.gap 0 (by omega)
      have l0 := ok.le 0 (by omega)
      have l1 := ok.le 1 hl
      obtain ⟨j, hj, j1, j2⟩ := ok.all ((spanN cf a k).2 0 1) (by omega) (by omega) (h _ (by omega) (by omega))
      rcases Nat.eq_zero_or_pos j with hj0 | hj0
      · subst hj0; omega
      · have mono : ∀ j, 1 ≤ j → j < (spanN cf a k).1 → (spanN cf a k).2 1 0 ≤ (spanN cf a k).2 j 0 := by
          intro j
          induction j with
          | zero => intro h; omega
          | succ j ih =>
            intro _ hjm
            rcases Nat.eq_zero_or_pos j with e | e
            · subst e; exact Int.le_refl _
            · have := ih e (by omega); have := ok.gap j hjm; have := ok.le j (by omega); omega
        have := mono j hj0 hj
        omega
    · omega
  have e0 : i = 0 := by omega
  subst e0
  have l0 := ok.le 0 (by omega)
  refine ⟨one, by omega, ?_⟩
  obtain ⟨j, hj, j1, j2⟩ := ok.all (a + k - 1) (by omega) (by omega) (h _ (by omega) (by omega))
  have : j = 0 := by omega
  subst this
  omega
/-- What holds less often has its intervals in those of what holds more often. -/
theorem span_wider {cf cf' : Int → Bool} {a : Int} {k : Nat} (h : ∀ t, a ≤ t → t < a + k → cf t = true → cf' t = true) {i : Nat} (hi : i < (spanN cf a k).1) : ∃ j, j < (spanN cf' a k).1 ∧ (spanN cf' a k).2 j 0 ≤ (spanN cf a k).2 i 0 ∧ (spanN cf a k).2 i 1 ≤ (spanN cf' a k).2 j 1 := by
  have ok := spanN_ok cf a k
  have ok' := spanN_ok cf' a k
  have l := ok.le i hi
  have hit : ∀ t, (spanN cf a k).2 i 0 ≤ t → t < (spanN cf a k).2 i 1 → cf' t = true := fun t h1 h2 => h t (by omega) (by omega) (ok.hit i hi t h1 h2)
  obtain ⟨j, hj, j1, j2⟩ := ok'.all ((spanN cf a k).2 i 0) (by omega) (by omega) (hit _ (Int.le_refl _) (by omega))
  refine ⟨j, hj, j1, ?_⟩
  have lj := ok'.le j hj
  rcases Int.lt_or_le ((spanN cf' a k).2 j 1) ((spanN cf a k).2 i 1) with hl | hl
  · exfalso
    obtain ⟨q, hq, q1, q2⟩ := ok'.all ((spanN cf' a k).2 j 1) (by omega) (by omega) (hit _ (by omega) hl)
    have step : ∀ p r, p < r → r < (spanN cf' a k).1 → (spanN cf' a k).2 p 1 < (spanN cf' a k).2 r 0 := by
      intro p r
      induction r with
      | zero => intro h; omega
      | succ r ih =>
        intro hpr hrm
        have g := ok'.gap r hrm
        rcases Nat.lt_or_ge p r with h' | h'
        · have := ih h' (by omega); have := ok'.le r (by omega); omega
        · rw [show p = r from by omega]; exact g
    rcases Nat.lt_trichotomy j q with h' | h' | h'
    · have := step j q h' hq; omega
    · subst h'; omega
    · have := step q j h' hj; omega
  · exact hl
end Probe
end Go.Proofs.Yteaccanhahmclaa
