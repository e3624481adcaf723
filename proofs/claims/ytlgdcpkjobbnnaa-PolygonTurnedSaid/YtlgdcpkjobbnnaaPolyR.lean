/- A polygon that begins with another vertex: plain laws. -/
import Derived.Test.YtlgdcpkjobbnnaaPolyQ
namespace Go.Proofs.Ytlgdcpkjobbnnaa
open Go.RowKit
namespace Poly
open Kit Plane
theorem common_sym' (ax ay bx by' cx cy dx dy : Int) : commonB cx cy dx dy ax ay bx by' = commonB ax ay bx by' cx cy dx dy := by
  unfold commonB crossB
  cases decide (sgn (crs ax ay bx by' cx cy) * sgn (crs ax ay bx by' dx dy) < 0) <;> cases decide (sgn (crs cx cy dx dy ax ay) * sgn (crs cx cy dx dy bx by') < 0) <;> cases onB ax ay bx by' cx cy <;> cases onB ax ay bx by' dx dy <;> cases onB cx cy dx dy ax ay <;> cases onB cx cy dx dy bx by' <;> rfl
theorem nx_two (n i : Nat) : (i + 2) % n = nx n (nx n i) := by
  unfold nx
  rw [Nat.mod_add_mod]
theorem nx_small {n i : Nat} (h : i + 1 < n) : nx n i = i + 1 := Nat.mod_eq_of_lt h
theorem nx_last {n : Nat} (h : 0 < n) : nx n (n - 1) = 0 := by unfold nx; rw [show n - 1 + 1 = n from by omega]; exact Nat.mod_self n
/-- Each vertex is the next one of another. -/
theorem nx_onto {n j : Nat} (hj : j < n) : ∃ i, i < n ∧ nx n i = j := by
  rcases Nat.eq_zero_or_pos j with h | h
  · subst h; exact ⟨n - 1, by omega, nx_last (by omega)⟩
  · exact ⟨j - 1, by omega, by rw [nx_small (by omega)]; omega⟩
theorem nx_inj {n i j : Nat} (hi : i < n) (hj : j < n) (h : nx n i = nx n j) : i = j := by
  rcases Nat.lt_or_ge (i + 1) n with h1 | h1
  · rcases Nat.lt_or_ge (j + 1) n with h2 | h2
    · rw [nx_small h1, nx_small h2] at h; omega
    · rw [nx_small h1, show j = n - 1 from by omega, nx_last (by omega)] at h; omega
  · rcases Nat.lt_or_ge (j + 1) n with h2 | h2
    · rw [nx_small h2, show i = n - 1 from by omega, nx_last (by omega)] at h; omega
    · omega
/-- A predicate of the vertices, turned. -/
theorem all_turned {n : Nat} {p : Nat → Prop} : (∀ i, i < n → p (nx n i)) ↔ ∀ i, i < n → p i := by
  constructor
  · intro h j hj
    obtain ⟨i, hi, e⟩ := nx_onto hj
    rw [← e]; exact h i hi
  · intro h i hi
    exact h _ (nx_lt (by omega))
section
variable {n : Nat} {X Y : Nat → Int}
theorem ckg_turned : ckg (fun i => X (nx n i)) (fun i => Y (nx n i)) n = true ↔ ckg X Y n = true := by
  rw [ckg_iff, ckg_iff]
  exact all_turned (p := fun i => good (X i) (Y i))
theorem asum_turned1 (_hn : 0 < n) : ∀ m, m < n → asum n (fun i => X (nx n i)) (fun i => Y (nx n i)) m = asum n X Y (m + 1) - (X 0 * Y (nx n 0) - Y 0 * X (nx n 0)) := by
  intro m
  induction m with
  | zero =>
    intro _
    show (0 : Int) = 0 + (X 0 * Y (nx n 0) - Y 0 * X (nx n 0)) - (X 0 * Y (nx n 0) - Y 0 * X (nx n 0))
    omega
  | succ m ih =>
    intro hm
    show asum n (fun i => X (nx n i)) (fun i => Y (nx n i)) m + (X (nx n m) * Y (nx n (nx n m)) - Y (nx n m) * X (nx n (nx n m))) = asum n X Y (m + 1) + (X (m + 1) * Y (nx n (m + 1)) - Y (m + 1) * X (nx n (m + 1))) - (X 0 * Y (nx n 0) - Y 0 * X (nx n 0))
    rw [ih (by omega), nx_small hm]
    omega
theorem asum_turned (hn : 0 < n) : asum n (fun i => X (nx n i)) (fun i => Y (nx n i)) n = asum n X Y n := by
  obtain ⟨m, rfl⟩ : ∃ m, n = m + 1 := ⟨n - 1, by omega⟩
  show asum (m + 1) (fun i => X (nx (m + 1) i)) (fun i => Y (nx (m + 1) i)) m + (X (nx (m + 1) m) * Y (nx (m + 1) (nx (m + 1) m)) - Y (nx (m + 1) m) * X (nx (m + 1) (nx (m + 1) m))) = _
  have e : nx (m + 1) m = 0 := nx_last (n := m + 1) (by omega)
  rw [asum_turned1 hn m (by omega), e]
  omega
theorem pin_turned1 {qx qy : Int} (_hn : 0 < n) : ∀ m, m < n → pin n X Y qx qy (m + 1) = if cr (Y 0) (Y (nx n 0)) qy (sgn (crs (X 0) (Y 0) (X (nx n 0)) (Y (nx n 0)) qx qy)) = true then - pin n (fun i => X (nx n i)) (fun i => Y (nx n i)) qx qy m else pin n (fun i => X (nx n i)) (fun i => Y (nx n i)) qx qy m := by
  intro m
  induction m with
  | zero => intro _; rfl
  | succ m ih =>
    intro hm
    have h1 := ih (by omega)
    show (if cr (Y (m + 1)) (Y (nx n (m + 1))) qy (sgn (crs (X (m + 1)) (Y (m + 1)) (X (nx n (m + 1))) (Y (nx n (m + 1))) qx qy)) = true then - pin n X Y qx qy (m + 1) else pin n X Y qx qy (m + 1)) = _
    have h2 : pin n (fun i => X (nx n i)) (fun i => Y (nx n i)) qx qy (m + 1) = if cr (Y (m + 1)) (Y (nx n (m + 1))) qy (sgn (crs (X (m + 1)) (Y (m + 1)) (X (nx n (m + 1))) (Y (nx n (m + 1))) qx qy)) = true then - pin n (fun i => X (nx n i)) (fun i => Y (nx n i)) qx qy m else pin n (fun i => X (nx n i)) (fun i => Y (nx n i)) qx qy m := by
      show (if cr (Y (nx n m)) (Y (nx n (nx n m))) qy (sgn (crs (X (nx n m)) (Y (nx n m)) (X (nx n (nx n m))) (Y (nx n (nx n m))) qx qy)) = true then _ else _) = _
      rw [nx_small hm]
    rw [h1, h2]
    split <;> split <;> omega
theorem pin_turned {qx qy : Int} (hn : 0 < n) : pin n (fun i => X (nx n i)) (fun i => Y (nx n i)) qx qy n = pin n X Y qx qy n := by
  obtain ⟨m, rfl⟩ : ∃ m, n = m + 1 := ⟨n - 1, by omega⟩
  rw [pin_turned1 (X := X) (Y := Y) hn m (by omega)]
  have e : nx (m + 1) m = 0 := nx_last (n := m + 1) (by omega)
  show (if cr (Y (nx (m + 1) m)) (Y (nx (m + 1) (nx (m + 1) m))) qy (sgn (crs (X (nx (m + 1) m)) (Y (nx (m + 1) m)) (X (nx (m + 1) (nx (m + 1) m))) (Y (nx (m + 1) (nx (m + 1) m))) qx qy)) = true then _ else _) = _
  rw [e]
theorem plon_iff {qx qy : Int} : ∀ {m : Nat}, plon n X Y qx qy m = true ↔ ∃ k, k < m ∧ onB (X k) (Y k) (X (nx n k)) (Y (nx n k)) qx qy = true
  | 0 => ⟨fun h => (by cases h), fun ⟨k, h, _⟩ => (by omega)⟩
  | m + 1 => by
    show (plon n X Y qx qy m || onB (X m) (Y m) (X (nx n m)) (Y (nx n m)) qx qy) = true ↔ _
    rw [Bool.or_eq_true, plon_iff]
    constructor
    · rintro (⟨k, h1, h2⟩ | h)
      · exact ⟨k, by omega, h2⟩
      · exact ⟨m, by omega, h⟩
    · rintro ⟨k, h1, h2⟩
      rcases Nat.lt_or_ge k m with hl | hl
      · exact Or.inl ⟨k, hl, h2⟩
      · rw [show k = m from by omega] at h2; exact Or.inr h2
theorem plon_turned {qx qy : Int} : plon n (fun i => X (nx n i)) (fun i => Y (nx n i)) qx qy n = plon n X Y qx qy n := by
  rw [Bool.eq_iff_iff, plon_iff, plon_iff]
  constructor
  · rintro ⟨k, h1, h2⟩
    exact ⟨nx n k, nx_lt (by omega), h2⟩
  · rintro ⟨k, h1, h2⟩
    obtain ⟨i, hi, e⟩ := nx_onto h1
    exact ⟨i, hi, by rw [e]; exact h2⟩
theorem place_turned {qx qy : Int} (hn : 0 < n) : place n (fun i => X (nx n i)) (fun i => Y (nx n i)) qx qy = place n X Y qx qy := by
  unfold place
  rw [plon_turned, pin_turned hn]
theorem inn_iff {i : Nat} : ∀ {m : Nat}, inn n X Y i m = true ↔ ∀ k, k < m → k < i + 2 ∨ nx n k = i ∨ commonB (X i) (Y i) (X (nx n i)) (Y (nx n i)) (X k) (Y k) (X (nx n k)) (Y (nx n k)) = false
  | 0 => ⟨fun _ k h => by omega, fun _ => rfl⟩
  | m + 1 => by
    show (inn n X Y i m && (decide (m < i + 2) || decide (nx n m = i) || !commonB (X i) (Y i) (X (nx n i)) (Y (nx n i)) (X m) (Y m) (X (nx n m)) (Y (nx n m)))) = true ↔ _
    rw [Bool.and_eq_true, inn_iff]
    simp only [Bool.or_eq_true, decide_eq_true_eq, Bool.not_eq_true']
    constructor
    · rintro ⟨h1, h2⟩ k hk
      rcases Nat.lt_or_ge k m with hl | hl
      · exact h1 k hl
      · rw [show k = m from by omega]
        rcases h2 with (h2 | h2) | h2
        · exact Or.inl h2
        · exact Or.inr (Or.inl h2)
        · exact Or.inr (Or.inr h2)
    · intro h
      refine ⟨fun k hk => h k (by omega), ?_⟩
      rcases h m (by omega) with h2 | h2 | h2
      · exact Or.inl (Or.inl h2)
      · exact Or.inl (Or.inr h2)
      · exact Or.inr h2
theorem rows_iff : ∀ {m : Nat}, rows n X Y m = true ↔ ∀ i, i < m → row n X Y i = true
  | 0 => ⟨fun _ k h => by omega, fun _ => rfl⟩
  | m + 1 => by
    show (rows n X Y m && row n X Y m) = true ↔ _
    rw [Bool.and_eq_true, rows_iff]
    constructor
    · rintro ⟨h1, h2⟩ k hk
      rcases Nat.lt_or_ge k m with hl | hl
      · exact h1 k hl
      · rw [show k = m from by omega]; exact h2
    · intro h
      exact ⟨fun k hk => h k (by omega), h m (by omega)⟩
/-- Check's look at the edges, without an order of them. -/
def Simple (n : Nat) (X Y : Nat → Int) : Prop := (∀ i, i < n → crs (X i) (Y i) (X (nx n i)) (Y (nx n i)) (X (nx n (nx n i))) (Y (nx n (nx n i))) ≠ 0) ∧
  ∀ i k, i < n → k < n → i ≠ k → nx n i ≠ k → nx n k ≠ i → commonB (X i) (Y i) (X (nx n i)) (Y (nx n i)) (X k) (Y k) (X (nx n k)) (Y (nx n k)) = false
theorem rows_simple : rows n X Y n = true ↔ Simple n X Y := by
  rw [rows_iff]
  constructor
  · intro h
    have hr : ∀ i, i < n → crs (X i) (Y i) (X (nx n i)) (Y (nx n i)) (X (nx n (nx n i))) (Y (nx n (nx n i))) ≠ 0 ∧ inn n X Y i n = true := fun i hi => by
      have := h i hi
      unfold row at this
      rw [Bool.and_eq_true, nx_two] at this
      refine ⟨fun e => ?_, this.2⟩
      rw [decide_eq_true (sgn_eq0.2 e)] at this
      exact absurd this.1 (by decide)
    refine ⟨fun i hi => (hr i hi).1, fun i k hi hk h1 h2 h3 => ?_⟩
    rcases Nat.lt_or_ge k (i + 2) with hl | hl
    · rcases Nat.lt_or_ge k i with hki | hki
      · have hik : k + 2 ≤ i := by
          rcases Nat.lt_or_ge i (k + 2) with h | h
          · exfalso; apply h3; rw [nx_small (by omega)]; omega
          · exact h
        rcases inn_iff.1 (hr k hk).2 i hi with h | h | h
        · omega
        · exact absurd h h2
        · rw [common_sym']; exact h
      · exfalso
        apply h2
        rw [nx_small (by omega)]; omega
    · rcases inn_iff.1 (hr i hi).2 k hk with h | h | h
      · omega
      · exact absurd h h3
      · exact h
  · rintro ⟨h1, h2⟩ i hi
    unfold row
    rw [Bool.and_eq_true, nx_two]
    refine ⟨?_, inn_iff.2 fun k hk => ?_⟩
    · rw [decide_eq_false (fun e => h1 i hi (sgn_eq0.1 e))]; rfl
    · rcases Nat.lt_or_ge k (i + 2) with hl | hl
      · exact Or.inl hl
      · by_cases e : nx n k = i
        · exact Or.inr (Or.inl e)
        · exact Or.inr (Or.inr (h2 i k hi hk (by omega) (by rw [nx_small (by omega)]; omega) e))
theorem simple_turned : Simple n (fun i => X (nx n i)) (fun i => Y (nx n i)) ↔ Simple n X Y := by
  unfold Simple
  refine and_congr (all_turned (p := fun i => crs (X i) (Y i) (X (nx n i)) (Y (nx n i)) (X (nx n (nx n i))) (Y (nx n (nx n i))) ≠ 0)) ?_
  constructor
  · intro h i k hi hk h1 h2 h3
    obtain ⟨i', hi', rfl⟩ := nx_onto hi
    obtain ⟨k', hk', rfl⟩ := nx_onto hk
    exact h i' k' hi' hk' (fun e => h1 (by rw [e])) (fun e => h2 (by rw [e])) (fun e => h3 (by rw [e]))
  · intro h i k hi hk h1 h2 h3
    exact h (nx n i) (nx n k) (nx_lt (by omega)) (nx_lt (by omega)) (fun e => h1 (nx_inj hi hk e)) (fun e => h2 (nx_inj (nx_lt (by omega)) hk e)) (fun e => h3 (nx_inj (nx_lt (by omega)) hi e))
theorem pck_iff : pck n X Y = 0 ↔ (3 ≤ n ∧ n ≤ 16) ∧ ckg X Y n = true ∧ Simple n X Y ∧ 0 < asum n X Y n := by
  rw [← rows_simple]
  unfold pck
  by_cases h1 : 16 < n
  · rw [if_pos h1]; exact ⟨fun h => by omega, fun h => by omega⟩
  · rw [if_neg h1]
    by_cases h2 : n < 3
    · rw [if_pos h2]; exact ⟨fun h => by omega, fun h => by omega⟩
    · rw [if_neg h2]
      cases hc : ckg X Y n with
      | false => rw [if_pos rfl]; exact ⟨fun h => by omega, fun h => by simp at h⟩
      | true =>
        rw [if_neg (by decide)]
        cases hr : rows n X Y n with
        | false => rw [if_pos (Or.inl rfl)]; exact ⟨fun h => by omega, fun h => by simp at h⟩
        | true =>
          by_cases ha : asum n X Y n ≤ 0
          · rw [if_pos (Or.inr ha)]; exact ⟨fun h => by omega, fun h => by omega⟩
          · rw [if_neg (by rintro (h | h) <;> first | cases h | exact ha h)]
            exact ⟨fun _ => ⟨⟨by omega, by omega⟩, rfl, rfl, by omega⟩, fun _ => rfl⟩
theorem pck_turned : pck n (fun i => X (nx n i)) (fun i => Y (nx n i)) = 0 ↔ pck n X Y = 0 := by
  rw [pck_iff, pck_iff, ckg_turned, simple_turned]
  constructor
  · rintro ⟨a, b, c, d⟩; exact ⟨a, b, c, by rw [asum_turned (by omega)] at d; exact d⟩
  · rintro ⟨a, b, c, d⟩; exact ⟨a, b, c, by rw [asum_turned (by omega)]; exact d⟩
end
/-- The numbers, from the k-th on. -/
def rotN (n : Nat) (X : Nat → Int) : Nat → Nat → Int
  | 0 => X
  | k + 1 => fun i => rotN n X k (nx n i)
theorem rotN_at {n : Nat} {X : Nat → Int} : ∀ {k i : Nat}, i < n → rotN n X k i = X ((k + i) % n)
  | 0, i, h => by rw [Nat.zero_add, Nat.mod_eq_of_lt h]; rfl
  | k + 1, i, h => by
    show rotN n X k (nx n i) = _
    rw [rotN_at (nx_lt (by omega))]
    unfold nx
    rw [Nat.add_mod_mod, show k + (i + 1) = k + 1 + i from by omega]
theorem pck_rot {n : Nat} {X Y : Nat → Int} : ∀ k, pck n (rotN n X k) (rotN n Y k) = 0 ↔ pck n X Y = 0
  | 0 => Iff.rfl
  | k + 1 => (pck_turned (X := rotN n X k) (Y := rotN n Y k)).trans (pck_rot k)
theorem asum_rot {n : Nat} {X Y : Nat → Int} (hn : 0 < n) : ∀ k, asum n (rotN n X k) (rotN n Y k) n = asum n X Y n
  | 0 => rfl
  | k + 1 => (asum_turned (X := rotN n X k) (Y := rotN n Y k) hn).trans (asum_rot hn k)
theorem place_rot {n : Nat} {X Y : Nat → Int} {qx qy : Int} (hn : 0 < n) : ∀ k, place n (rotN n X k) (rotN n Y k) qx qy = place n X Y qx qy
  | 0 => rfl
  | k + 1 => (place_turned (X := rotN n X k) (Y := rotN n Y k) hn).trans (place_rot hn k)
end Poly
end Go.Proofs.Ytlgdcpkjobbnnaa
