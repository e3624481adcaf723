/- The cuts of an edge in the order of their distances: a neighbouring pair whose midpoint goes is what EntP asks (plain law). -/
import Derived.Test.YtlokkffpmjlihaaOvL
namespace Go.Proofs.Ytlokkffpmjlihaa
namespace Over
open Plane Poly
/-- What EntP asks of one edge. -/
def EntI (n : Nat) (X Y : Nat → Int) (m : Nat) (U V : Nat → Int) (i : Nat) : Prop :=
  ∃ cx cy dx dy : Int, Cut n X Y m U V i cx cy ∧ Cut n X Y m U V i dx dy ∧ sqr (X i) (Y i) cx cy < sqr (X i) (Y i) dx dy ∧
    (∀ ex ey : Int, Cut n X Y m U V i ex ey → ¬ (sqr (X i) (Y i) cx cy < sqr (X i) (Y i) ex ey ∧ sqr (X i) (Y i) ex ey < sqr (X i) (Y i) dx dy)) ∧ Goes n X Y m U V i ((cx + dx) / 2) ((cy + dy) / 2)
theorem entp_iff {n : Nat} {X Y : Nat → Int} {m : Nat} {U V : Nat → Int} : EntP n X Y m U V ↔ ∃ i, i < n ∧ EntI n X Y m U V i := Iff.rfl
/-- Two points of one distance on a segment are one point. -/
theorem on_eq {ax ay bx by' px py qx qy : Int} (hne : ¬ (ax = bx ∧ ay = by')) (hp : onB ax ay bx by' px py = true) (hq : onB ax ay bx by' qx qy = true) (h : sqr ax ay px py = sqr ax ay qx qy) : px = qx ∧ py = qy := by
  obtain ⟨D, K, d1, d2, d3, d4, d5⟩ := on_mean hp hne
  obtain ⟨E, L, e1, e2, e3, e4, e5⟩ := on_mean hq hne
  have hS : 0 < sqr ax ay bx by' := by
    have h1 := sqr_nonneg ax ay bx by'
    rcases (show 0 < sqr ax ay bx by' ∨ sqr ax ay bx by' = 0 by omega) with h | h
    · exact h
    · exact absurd (sqr_zero h) hne
  have f1 : D * D * sqr ax ay px py = K * K * sqr ax ay bx by' := by unfold sqr; grind
  have f2 : E * E * sqr ax ay qx qy = L * L * sqr ax ay bx by' := by unfold sqr; grind
  have f3 : (E * K - D * L) * (E * K + D * L) * sqr ax ay bx by' = 0 := by grind
  have n1 : 0 ≤ E * K := Int.mul_nonneg (by omega) d2
  have n2 : 0 ≤ D * L := Int.mul_nonneg (by omega) e2
  have f4 : E * K = D * L := by
    rcases Int.mul_eq_zero.1 f3 with h | h
    · rcases Int.mul_eq_zero.1 h with h | h <;> omega
    · omega
  have hDE := Par.mp d1 e1
  have g1 : D * E * (px - qx) = 0 := by grind
  have g2 : D * E * (py - qy) = 0 := by grind
  constructor
  · rcases Int.mul_eq_zero.1 g1 with h | h <;> omega
  · rcases Int.mul_eq_zero.1 g2 with h | h <;> omega
theorem cut_on {n : Nat} {X Y : Nat → Int} {m : Nat} {U V : Nat → Int} {i : Nat} {cx cy : Int} (h : Cut n X Y m U V i cx cy) : onB (X i) (Y i) (X (nx n i)) (Y (nx n i)) cx cy = true := by
  rcases h with ⟨rfl, rfl⟩ | ⟨rfl, rfl⟩ | ⟨-, -, -, -, h⟩
  · exact J.on_end _ _ _ _
  · rw [← J.on_swap]; exact J.on_end _ _ _ _
  · exact h
theorem adj_iff {n : Nat} {X Y : Nat → Int} {m : Nat} {U V : Nat → Int} {i : Nat} (hne : ¬ (X i = X (nx n i) ∧ Y i = Y (nx n i))) {s : Nat} {CX CY : Nat → Int}
    (hmem : ∀ cx cy, Cut n X Y m U V i cx cy ↔ ∃ k, k < s ∧ cx = CX k ∧ cy = CY k) (hs : ∀ j k, j < k → k < s → sqr (X i) (Y i) (CX j) (CY j) ≤ sqr (X i) (Y i) (CX k) (CY k)) :
    EntI n X Y m U V i ↔ ∃ k, k + 1 < s ∧ ¬ (CX (k + 1) = CX k ∧ CY (k + 1) = CY k) ∧ Goes n X Y m U V i ((CX (k + 1) + CX k) / 2) ((CY (k + 1) + CY k) / 2) := by
  have hc : ∀ k, k < s → Cut n X Y m U V i (CX k) (CY k) := fun k hk => (hmem _ _).2 ⟨k, hk, rfl, rfl⟩
  have hs' : ∀ j k, j ≤ k → k < s → sqr (X i) (Y i) (CX j) (CY j) ≤ sqr (X i) (Y i) (CX k) (CY k) := fun j k hj hk => by
    rcases Nat.lt_or_ge j k with h | h
    · exact hs j k h hk
    · rw [show j = k from by omega]; exact Int.le_refl _
  have heq : ∀ {px py qx qy : Int}, Cut n X Y m U V i px py → Cut n X Y m U V i qx qy → sqr (X i) (Y i) px py = sqr (X i) (Y i) qx qy → px = qx ∧ py = qy := fun hp hq h => on_eq hne (cut_on hp) (cut_on hq) h
  constructor
  · rintro ⟨cx, cy, dx, dy, h1, h2, h3, h4, h5⟩
    obtain ⟨jc, hjc, rfl, rfl⟩ := (hmem _ _).1 h1
    obtain ⟨jd, hjd, rfl, rfl⟩ := (hmem _ _).1 h2
    obtain ⟨k, ⟨hk, hkl⟩, hmin⟩ := exists_min (P := fun k => k < s ∧ sqr (X i) (Y i) (CX jc) (CY jc) < sqr (X i) (Y i) (CX k) (CY k)) jd ⟨hjd, h3⟩
    have q1 : jc < k := by
      rcases Nat.lt_or_ge jc k with h | h
      · exact h
      · have := hs' k jc h hjc; omega
    have q2 : k ≤ jd := by
      rcases Nat.lt_or_ge jd k with h | h
      · exact absurd ⟨hjd, h3⟩ (hmin jd h)
      · exact h
    obtain ⟨p, rfl⟩ : ∃ p, k = p + 1 := ⟨k - 1, by omega⟩
    have a1 : ¬ sqr (X i) (Y i) (CX jc) (CY jc) < sqr (X i) (Y i) (CX p) (CY p) := fun h => hmin p (by omega) ⟨by omega, h⟩
    have a2 := hs' jc p (by omega) (by omega)
    obtain ⟨e1, e2⟩ := heq (hc jc hjc) (hc p (by omega)) (by omega)
    have a3 := hs' (p + 1) jd q2 hjd
    have a4 := h4 _ _ (hc (p + 1) hk)
    obtain ⟨e3, e4⟩ := heq (hc (p + 1) hk) (hc jd hjd) (by omega)
    refine ⟨p, hk, fun h => ?_, ?_⟩
    · rw [h.1, h.2, ← e1, ← e2] at hkl; omega
    · rw [e3, e4, ← e1, ← e2, Int.add_comm (CX jd), Int.add_comm (CY jd)]; exact h5
  · rintro ⟨k, hk, hd, hg⟩
    have q := hs' k (k + 1) (by omega) hk
    refine ⟨CX k, CY k, CX (k + 1), CY (k + 1), hc k (by omega), hc (k + 1) hk, ?_, ?_, ?_⟩
    · rcases (show sqr (X i) (Y i) (CX k) (CY k) < sqr (X i) (Y i) (CX (k + 1)) (CY (k + 1)) ∨ sqr (X i) (Y i) (CX (k + 1)) (CY (k + 1)) = sqr (X i) (Y i) (CX k) (CY k) by omega) with h | h
      · exact h
      · exact absurd (heq (hc _ hk) (hc k (by omega)) h) hd
    · intro ex ey he h
      obtain ⟨j, hj, rfl, rfl⟩ := (hmem _ _).1 he
      rcases Nat.lt_or_ge k j with hl | hl
      · have := hs' (k + 1) j hl hj; omega
      · have := hs' j k hl (by omega); omega
    · rw [Int.add_comm (CX k), Int.add_comm (CY k)]; exact hg
end Over
end Go.Proofs.Ytlokkffpmjlihaa
