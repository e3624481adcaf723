/- A vertex of p inside q: then a part of an edge of p enters q (plain law). -/
import Derived.Test.YtlokkffpmjlihaaOvP
namespace Go.Proofs.Ytlokkffpmjlihaa
namespace Over
open Plane Poly
/-- A point at which enters cuts edge i of p. -/
def Cut (n : Nat) (X Y : Nat → Int) (m : Nat) (U V : Nat → Int) (i : Nat) (cx cy : Int) : Prop :=
  (cx = X i ∧ cy = Y i) ∨ (cx = X (nx n i) ∧ cy = Y (nx n i)) ∨ ∃ k, k < m ∧ cx = U k ∧ cy = V k ∧ onB (X i) (Y i) (X (nx n i)) (Y (nx n i)) cx cy = true
/-- What enters asks of a midpoint. -/
def Goes (n : Nat) (X Y : Nat → Int) (m : Nat) (U V : Nat → Int) (i : Nat) (mx my : Int) : Prop :=
  place m U V mx my = 1 ∨ (place m U V mx my = 0 ∧ ∃ j, j < m ∧ onB (U j) (V j) (U (nx m j)) (V (nx m j)) mx my = true ∧ 0 < (X (nx n i) - X i) * (U (nx m j) - U j) + (Y (nx n i) - Y i) * (V (nx m j) - V j))
/-- A part of an edge of p enters q. -/
def EntP (n : Nat) (X Y : Nat → Int) (m : Nat) (U V : Nat → Int) : Prop :=
  ∃ i, i < n ∧ ∃ cx cy dx dy : Int, Cut n X Y m U V i cx cy ∧ Cut n X Y m U V i dx dy ∧ sqr (X i) (Y i) cx cy < sqr (X i) (Y i) dx dy ∧
    (∀ ex ey : Int, Cut n X Y m U V i ex ey → ¬ (sqr (X i) (Y i) cx cy < sqr (X i) (Y i) ex ey ∧ sqr (X i) (Y i) ex ey < sqr (X i) (Y i) dx dy)) ∧ Goes n X Y m U V i ((cx + dx) / 2) ((cy + dy) / 2)
theorem exists_min {P : Nat → Prop} : ∀ n, P n → ∃ k, P k ∧ ∀ j, j < k → ¬ P j := by
  intro n
  induction n using Nat.strongRecOn with
  | ind n ih =>
    intro h
    by_cases hh : ∃ j, j < n ∧ P j
    · obtain ⟨j, hj, hp⟩ := hh
      exact ih j hj hp
    · exact ⟨n, h, fun j hj hp => hh ⟨j, hj, hp⟩⟩
theorem sqr_zero {ax ay bx by' : Int} (h : sqr ax ay bx by' = 0) : ax = bx ∧ ay = by' := by
  unfold sqr at h
  have h1 := sq_nonneg (ax - bx); have h2 := sq_nonneg (ay - by')
  have z1 : (ax - bx) * (ax - bx) = 0 := by omega
  have z2 : (ay - by') * (ay - by') = 0 := by omega
  have q1 : ax - bx = 0 := by rcases Int.mul_eq_zero.1 z1 with h | h <;> exact h
  have q2 : ay - by' = 0 := by rcases Int.mul_eq_zero.1 z2 with h | h <;> exact h
  omega
/-- Nearer to a along a segment. -/
theorem sqr_mean {D K ax ay zx zy mx my : Int} (hD : 0 < D) (h0 : 0 ≤ K) (h1 : K ≤ D) (hx : D * (zx - ax) = K * (mx - ax)) (hy : D * (zy - ay) = K * (my - ay)) : sqr ax ay zx zy ≤ sqr ax ay mx my := by
  have e : D * D * sqr ax ay zx zy = K * K * sqr ax ay mx my := by unfold sqr; grind
  have n1 := sqr_nonneg ax ay mx my
  have p1 : K * K ≤ D * D := Int.mul_le_mul h1 h1 h0 (by omega)
  have p2 : K * K * sqr ax ay mx my ≤ D * D * sqr ax ay mx my := Int.mul_le_mul_of_nonneg_right p1 n1
  rcases (show sqr ax ay zx zy ≤ sqr ax ay mx my ∨ sqr ax ay mx my < sqr ax ay zx zy by omega) with h | h
  · exact h
  · have p3 := Int.mul_lt_mul_of_pos_left h (Par.mp hD hD)
    omega
theorem ent_inside {n : Nat} {X Y : Nat → Int} {m : Nat} {U V : Nat → Int} {i : Nat} (hi : i < n) (h0 : 0 < m)
    (hne : ¬ (X i = X (nx n i) ∧ Y i = Y (nx n i))) (hq : ∀ k, k < m → ¬ (U k = U (nx m k) ∧ V k = V (nx m k)))
    (ev : ∀ cx cy, Cut n X Y m U V i cx cy → (X i + cx) % 2 = 0 ∧ (Y i + cy) % 2 = 0)
    (hin : place m U V (X i) (Y i) = 1) (hc : ∀ k, k < m → crossB (U k) (V k) (U (nx m k)) (V (nx m k)) (X i) (Y i) (X (nx n i)) (Y (nx n i)) = false) : EntP n X Y m U V := by
  obtain ⟨k, ⟨dx, dy, hcut, hk0, hk⟩, hmin⟩ := exists_min (P := fun k => ∃ dx dy, Cut n X Y m U V i dx dy ∧ 0 < sqr (X i) (Y i) dx dy ∧ sqr (X i) (Y i) dx dy = (k : Int)) (sqr (X i) (Y i) (X (nx n i)) (Y (nx n i))).toNat ⟨X (nx n i), Y (nx n i), Or.inr (Or.inl ⟨rfl, rfl⟩), by
    have h1 := sqr_nonneg (X i) (Y i) (X (nx n i)) (Y (nx n i))
    rcases (show 0 < sqr (X i) (Y i) (X (nx n i)) (Y (nx n i)) ∨ sqr (X i) (Y i) (X (nx n i)) (Y (nx n i)) = 0 by omega) with h | h
    · exact h
    · exact absurd (sqr_zero h) hne, by have := sqr_nonneg (X i) (Y i) (X (nx n i)) (Y (nx n i)); omega⟩
  have hself : sqr (X i) (Y i) (X i) (Y i) = 0 := by unfold sqr; simp
  have hdon : onB (X i) (Y i) (X (nx n i)) (Y (nx n i)) dx dy = true := by
    rcases hcut with ⟨rfl, rfl⟩ | ⟨rfl, rfl⟩ | ⟨-, -, -, -, h⟩
    · omega
    · rw [← J.on_swap]; exact J.on_end _ _ _ _
    · exact h
  have hmin' : ∀ ex ey, Cut n X Y m U V i ex ey → ¬ (0 < sqr (X i) (Y i) ex ey ∧ sqr (X i) (Y i) ex ey < sqr (X i) (Y i) dx dy) := fun ex ey he h => by
    have h1 := sqr_nonneg (X i) (Y i) ex ey
    exact hmin (sqr (X i) (Y i) ex ey).toNat (by omega) ⟨ex, ey, he, h.1, by omega⟩
  obtain ⟨D, K, d1, d2, d3, d4, d5⟩ := on_mean hdon hne
  have evd := ev dx dy hcut
  obtain ⟨mx, hmx⟩ : ∃ mx, mx = (X i + dx) / 2 := ⟨_, rfl⟩
  obtain ⟨my, hmy⟩ : ∃ my, my = (Y i + dy) / 2 := ⟨_, rfl⟩
  have hmx2 : 2 * (mx - X i) = dx - X i := by omega
  have hmy2 : 2 * (my - Y i) = dy - Y i := by omega
  have hK : 0 < K := by
    rcases (show 0 < K ∨ K = 0 by omega) with h | h
    · exact h
    · rw [h, Int.zero_mul] at d4 d5
      have z1 : dx = X i := by rcases Int.mul_eq_zero.1 d4 with h | h <;> omega
      have z2 : dy = Y i := by rcases Int.mul_eq_zero.1 d5 with h | h <;> omega
      rw [z1, z2, hself] at hk0; omega
  have M : Mid (2 * D) K (X i) (Y i) (X (nx n i)) (Y (nx n i)) mx my := ⟨hK, by omega, by rw [Int.mul_assoc, Int.mul_left_comm, hmx2]; exact d4, by rw [Int.mul_assoc, Int.mul_left_comm, hmy2]; exact d5⟩
  have hquart : 4 * sqr (X i) (Y i) mx my = sqr (X i) (Y i) dx dy := by
    unfold sqr
    have e1 : dx = X i + 2 * (mx - X i) := by omega
    have e2 : dy = Y i + 2 * (my - Y i) := by omega
    rw [e1, e2]; grind
  have hpl := place_part M h0 hq (by rw [hin]; decide) hc (fun k hk => by
    cases hh : onB (X i) (Y i) mx my (U k) (V k) with
    | false => rfl
    | true =>
      exfalso
      have hnm : ¬ (X i = mx ∧ Y i = my) := fun h => by
        have : dx = X i ∧ dy = Y i := by omega
        rw [this.1, this.2, hself] at hk0; omega
      obtain ⟨D', K', e1, e2, e3, e4, e5⟩ := on_mean hh hnm
      have s1 := sqr_mean e1 e2 e3 e4 e5
      have hkne : ¬ (X i = U k ∧ Y i = V k) := fun h => by
        have h1 := plon_in (n := m) (X := U) (Y := V) (qx := X i) (qy := Y i) (by rw [hin]; decide) hk
        rw [h.1, h.2, J.on_end] at h1; cases h1
      have s2 : 0 < sqr (X i) (Y i) (U k) (V k) := by
        have h1 := sqr_nonneg (X i) (Y i) (U k) (V k)
        rcases (show 0 < sqr (X i) (Y i) (U k) (V k) ∨ sqr (X i) (Y i) (U k) (V k) = 0 by omega) with h | h
        · exact h
        · exact absurd (sqr_zero h) hkne
      have hcutk : Cut n X Y m U V i (U k) (V k) := Or.inr (Or.inr ⟨k, hk, rfl, rfl, by
        have hb1 := hh; have hb2 := hdon
        unfold onB btw at hb1 hb2 ⊢
        rw [Bool.and_eq_true, decide_eq_true_eq, decide_eq_true_eq] at hb1 hb2 ⊢
        refine ⟨?_, by omega⟩
        have z : (2 * D) * D' * crs (X i) (Y i) (X (nx n i)) (Y (nx n i)) (U k) (V k) = 0 := by
          have m1 := M.x; have m2 := M.y
          unfold crs; grind
        rcases Int.mul_eq_zero.1 z with z | z
        · have := Par.mp (show 0 < 2 * D by omega) e1; omega
        · exact z⟩)
      exact hmin' _ _ hcutk ⟨s2, by omega⟩)
  refine ⟨i, hi, X i, Y i, dx, dy, Or.inl ⟨rfl, rfl⟩, hcut, by omega, fun ex ey he => by rw [hself]; exact hmin' ex ey he, Or.inl ?_⟩
  rw [← hmx, ← hmy, hpl, hin]
/-- A polygon enters itself. -/
theorem ent_self {n : Nat} {X Y : Nat → Int} (h0 : 0 < n) (hne : ¬ (X 0 = X (nx n 0) ∧ Y 0 = Y (nx n 0)))
    (ev : ∀ cx cy, Cut n X Y n X Y 0 cx cy → (X 0 + cx) % 2 = 0 ∧ (Y 0 + cy) % 2 = 0) : EntP n X Y n X Y := by
  have hpos : 0 < sqr (X 0) (Y 0) (X (nx n 0)) (Y (nx n 0)) := by
    have h1 := sqr_nonneg (X 0) (Y 0) (X (nx n 0)) (Y (nx n 0))
    rcases (show 0 < sqr (X 0) (Y 0) (X (nx n 0)) (Y (nx n 0)) ∨ sqr (X 0) (Y 0) (X (nx n 0)) (Y (nx n 0)) = 0 by omega) with h | h
    · exact h
    · exact absurd (sqr_zero h) hne
  obtain ⟨k, ⟨dx, dy, hcut, hk0, hk⟩, hmin⟩ := exists_min (P := fun k => ∃ dx dy, Cut n X Y n X Y 0 dx dy ∧ 0 < sqr (X 0) (Y 0) dx dy ∧ sqr (X 0) (Y 0) dx dy = (k : Int)) (sqr (X 0) (Y 0) (X (nx n 0)) (Y (nx n 0))).toNat ⟨X (nx n 0), Y (nx n 0), Or.inr (Or.inl ⟨rfl, rfl⟩), hpos, by omega⟩
  have hself : sqr (X 0) (Y 0) (X 0) (Y 0) = 0 := by unfold sqr; simp
  have hdon : onB (X 0) (Y 0) (X (nx n 0)) (Y (nx n 0)) dx dy = true := by
    rcases hcut with ⟨rfl, rfl⟩ | ⟨rfl, rfl⟩ | ⟨-, -, -, -, h⟩
    · omega
    · rw [← J.on_swap]; exact J.on_end _ _ _ _
    · exact h
  have hmin' : ∀ ex ey, Cut n X Y n X Y 0 ex ey → ¬ (0 < sqr (X 0) (Y 0) ex ey ∧ sqr (X 0) (Y 0) ex ey < sqr (X 0) (Y 0) dx dy) := fun ex ey he h => by
    have h1 := sqr_nonneg (X 0) (Y 0) ex ey
    exact hmin (sqr (X 0) (Y 0) ex ey).toNat (by omega) ⟨ex, ey, he, h.1, by omega⟩
  have evd := ev dx dy hcut
  obtain ⟨mx, hmx⟩ : ∃ mx, mx = (X 0 + dx) / 2 := ⟨_, rfl⟩
  obtain ⟨my, hmy⟩ : ∃ my, my = (Y 0 + dy) / 2 := ⟨_, rfl⟩
  have hmx2 : 2 * (mx - X 0) = dx - X 0 := by omega
  have hmy2 : 2 * (my - Y 0) = dy - Y 0 := by omega
  have hmon : onB (X 0) (Y 0) (X (nx n 0)) (Y (nx n 0)) mx my = true := by
    have hb := hdon
    unfold onB btw at hb ⊢
    rw [Bool.and_eq_true, decide_eq_true_eq, decide_eq_true_eq] at hb ⊢
    refine ⟨?_, by omega⟩
    have z : 2 * crs (X 0) (Y 0) (X (nx n 0)) (Y (nx n 0)) mx my = 0 := by
      have h1 := hb.1
      unfold crs at *; grind
    omega
  refine ⟨0, h0, X 0, Y 0, dx, dy, Or.inl ⟨rfl, rfl⟩, hcut, by omega, fun ex ey he => by rw [hself]; exact hmin' ex ey he, Or.inr ⟨?_, 0, h0, ?_, ?_⟩⟩
  · rw [← hmx, ← hmy]
    unfold place
    rw [if_pos (on_stop hmon n h0)]
  · rw [← hmx, ← hmy]; exact hmon
  · have e : sqr (X 0) (Y 0) (X (nx n 0)) (Y (nx n 0)) = (X (nx n 0) - X 0) * (X (nx n 0) - X 0) + (Y (nx n 0) - Y 0) * (Y (nx n 0) - Y 0) := by
      unfold sqr
      rw [show X 0 - X (nx n 0) = -(X (nx n 0) - X 0) from by omega, show Y 0 - Y (nx n 0) = -(Y (nx n 0) - Y 0) from by omega, Int.neg_mul_neg, Int.neg_mul_neg]
    rw [← e]; exact hpos
end Over
end Go.Proofs.Ytlokkffpmjlihaa
