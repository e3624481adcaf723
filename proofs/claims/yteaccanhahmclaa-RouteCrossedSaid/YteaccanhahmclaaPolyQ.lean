/- Plain laws of polygons: of what is far, of what lies on an edge. -/
import Derived.Test.YteaccanhahmclaaPolyG
namespace Go.Proofs.Yteaccanhahmclaa
namespace Poly
open Plane
theorem fars_all {n : Nat} {X Y : Nat → Int} {qx qy d : Int} : ∀ {m : Nat}, fars n X Y qx qy d m = true → ∀ k, k < m → farB (X k) (Y k) (X (nx n k)) (Y (nx n k)) qx qy d = true
  | 0, _, k, hk => by omega
  | m + 1, h, k, hk => by
    have h : (fars n X Y qx qy d m && farB (X m) (Y m) (X (nx n m)) (Y (nx n m)) qx qy d) = true := h
    rw [Bool.and_eq_true] at h
    rcases Nat.lt_or_ge k m with hl | hl
    · exact fars_all h.1 k hl
    · rw [show k = m from by omega]; exact h.2
theorem fars_of {n : Nat} {X Y : Nat → Int} {qx qy d : Int} : ∀ {m : Nat}, (∀ k, k < m → farB (X k) (Y k) (X (nx n k)) (Y (nx n k)) qx qy d = true) → fars n X Y qx qy d m = true
  | 0, _ => rfl
  | m + 1, h => by
    show (fars n X Y qx qy d m && farB (X m) (Y m) (X (nx n m)) (Y (nx n m)) qx qy d) = true
    rw [fars_of (fun k hk => h k (by omega)), h m (by omega)]; rfl
/-- Scalar and cross product, against the squared lengths. -/
theorem lagrange (a b c d : Int) : (a * c + b * d) * (a * c + b * d) + (a * d - b * c) * (a * d - b * c) = (a * a + b * b) * (c * c + d * d) := by
  have e1 : (a * c + b * d) * (a * c + b * d) = a * c * (a * c) + 2 * (a * c * (b * d)) + b * d * (b * d) := by
    rw [Int.add_mul, Int.mul_add, Int.mul_add, Int.mul_comm (b * d) (a * c)]; omega
  have e2 : (a * d - b * c) * (a * d - b * c) = a * d * (a * d) - 2 * (a * d * (b * c)) + b * c * (b * c) := by
    rw [Int.sub_mul, Int.mul_sub, Int.mul_sub, Int.mul_comm (b * c) (a * d)]; omega
  have e3 : a * d * (b * c) = a * c * (b * d) := by
    rw [Int.mul_assoc, Int.mul_assoc, Int.mul_left_comm d b c, Int.mul_left_comm c b d, Int.mul_comm d c]
  have e4 : (a * a + b * b) * (c * c + d * d) = a * a * (c * c) + a * a * (d * d) + (b * b * (c * c) + b * b * (d * d)) := by
    rw [Int.add_mul, Int.mul_add, Int.mul_add]
  have sq : ∀ x y : Int, x * y * (x * y) = x * x * (y * y) := fun x y => by rw [Int.mul_assoc, Int.mul_left_comm y x y, ← Int.mul_assoc]
  rw [e1, e2, e3, e4, sq a c, sq b d, sq a d, sq b c]
  omega
theorem far_vertex {ax ay bx by' qx qy d : Int} (h : farB ax ay bx by' qx qy d = true) : d * d < sqr ax ay qx qy := by
  unfold farB at h
  have es : sqr ax ay qx qy = (qx - ax) * (qx - ax) + (qy - ay) * (qy - ay) := by
    unfold sqr
    rw [show ax - qx = -(qx - ax) from by omega, show ay - qy = -(qy - ay) from by omega, Int.neg_mul_neg, Int.neg_mul_neg]
  split at h
  · exact of_decide_eq_true h
  · rename_i hT
    split at h
    · rename_i hL
      have h := of_decide_eq_true h
      have eb : sqr bx by' qx qy = (qx - ax) * (qx - ax) + (qy - ay) * (qy - ay) - 2 * ((bx - ax) * (qx - ax) + (by' - ay) * (qy - ay)) + ((bx - ax) * (bx - ax) + (by' - ay) * (by' - ay)) := by
        unfold sqr
        rw [show bx - qx = (bx - ax) - (qx - ax) from by omega, show by' - qy = (by' - ay) - (qy - ay) from by omega]
        generalize bx - ax = u; generalize qx - ax = v; generalize by' - ay = s; generalize qy - ay = t
        rw [Int.sub_mul, Int.mul_sub, Int.mul_sub, Int.sub_mul, Int.mul_sub, Int.mul_sub, Int.mul_comm v u, Int.mul_comm t s]
        omega
      have s1 := sq_nonneg (bx - ax); have s2 := sq_nonneg (by' - ay)
      rw [eb] at h
      rw [es]
      omega
    · rename_i hL
      have h := of_decide_eq_true h
      have e := lagrange (bx - ax) (by' - ay) (qx - ax) (qy - ay)
      rw [es]
      generalize (bx - ax) * (qy - ay) - (by' - ay) * (qx - ax) = c at *
      generalize (bx - ax) * (qx - ax) + (by' - ay) * (qy - ay) = t at *
      generalize (bx - ax) * (bx - ax) + (by' - ay) * (by' - ay) = l at *
      generalize (qx - ax) * (qx - ax) + (qy - ay) * (qy - ay) = m at *
      have ht := sq_nonneg t
      have hl : 0 < l := by omega
      have hlt : l * (d * d) < l * m := by rw [Int.mul_comm l (d * d)]; omega
      exact Int.lt_of_mul_lt_mul_left hlt (by omega)
theorem far_less {ax ay bx by' qx qy d d2 : Int} (h0 : 0 ≤ d2) (h1 : d2 ≤ d) (h : farB ax ay bx by' qx qy d = true) : farB ax ay bx by' qx qy d2 = true := by
  have hs := sq_mono h0 h1
  unfold farB at h ⊢
  split
  · rename_i hT
    rw [if_pos hT] at h
    have := of_decide_eq_true h
    exact decide_eq_true (by omega)
  · rename_i hT
    rw [if_neg hT] at h
    split
    · rename_i hL
      rw [if_pos hL] at h
      have := of_decide_eq_true h
      exact decide_eq_true (by omega)
    · rename_i hL
      rw [if_neg hL] at h
      have := of_decide_eq_true h
      refine decide_eq_true ?_
      have hm := Int.mul_le_mul_of_nonneg_right hs (show 0 ≤ (bx - ax) * (bx - ax) + (by' - ay) * (by' - ay) by have := sq_nonneg (bx - ax); have := sq_nonneg (by' - ay); omega)
      omega
theorem fars_less {n : Nat} {X Y : Nat → Int} {qx qy d d2 : Int} (h0 : 0 ≤ d2) (h1 : d2 ≤ d) {m : Nat} (h : fars n X Y qx qy d m = true) : fars n X Y qx qy d2 m = true :=
  fars_of fun k hk => far_less h0 h1 (fars_all h k hk)
theorem place_on {n : Nat} {X Y : Nat → Int} {qx qy : Int} (h : place n X Y qx qy < 0) : plon n X Y qx qy n = false := by
  unfold place at h
  cases hp : plon n X Y qx qy n with
  | false => rfl
  | true => rw [hp, if_pos rfl] at h; omega
theorem plon_all {n : Nat} {X Y : Nat → Int} {qx qy : Int} : ∀ {m : Nat}, plon n X Y qx qy m = false → ∀ k, k < m → onB (X k) (Y k) (X (nx n k)) (Y (nx n k)) qx qy = false
  | 0, _, k, hk => by omega
  | m + 1, h, k, hk => by
    have h : (plon n X Y qx qy m || onB (X m) (Y m) (X (nx n m)) (Y (nx n m)) qx qy) = false := h
    rw [Bool.or_eq_false_iff] at h
    rcases Nat.lt_or_ge k m with hl | hl
    · exact plon_all h.1 k hl
    · rw [show k = m from by omega]; exact h.2
/-- What divides: a coordinate of a point on the line, between the ends. -/
theorem part {l p r t : Int} (hl : 0 < l) (h : l * r = p * t) (h0 : 0 ≤ t) (h1 : t ≤ l) : (0 ≤ p → 0 ≤ r ∧ r ≤ p) ∧ (p ≤ 0 → p ≤ r ∧ r ≤ 0) := by
  constructor
  · intro hp
    have a1 : 0 ≤ p * t := Int.mul_nonneg hp h0
    have a2 : p * t ≤ p * l := Int.mul_le_mul_of_nonneg_left h1 hp
    exact ⟨Int.le_of_mul_le_mul_left (show l * 0 ≤ l * r by rw [Int.mul_zero, h]; exact a1) hl, Int.le_of_mul_le_mul_left (show l * r ≤ l * p by rw [h, Int.mul_comm l p]; exact a2) hl⟩
  · intro hp
    have a1 : p * t ≤ 0 := Int.mul_nonpos_of_nonpos_of_nonneg hp h0
    have a2 : p * l ≤ p * t := Int.mul_le_mul_of_nonpos_left hp h1
    exact ⟨Int.le_of_mul_le_mul_left (show l * p ≤ l * r by rw [h, Int.mul_comm l p]; exact a2) hl, Int.le_of_mul_le_mul_left (show l * r ≤ l * 0 by rw [Int.mul_zero, h]; exact a1) hl⟩
theorem on_of_part {ax ay bx by' qx qy : Int} (hc : (bx - ax) * (qy - ay) - (by' - ay) * (qx - ax) = 0) (h0 : 0 ≤ (bx - ax) * (qx - ax) + (by' - ay) * (qy - ay)) (h1 : (bx - ax) * (qx - ax) + (by' - ay) * (qy - ay) ≤ (bx - ax) * (bx - ax) + (by' - ay) * (by' - ay))
    (hl : 0 < (bx - ax) * (bx - ax) + (by' - ay) * (by' - ay)) : onB ax ay bx by' qx qy = true := by
  unfold onB
  rw [show crs ax ay bx by' qx qy = 0 from hc]
  have e1 : ((bx - ax) * (bx - ax) + (by' - ay) * (by' - ay)) * (qx - ax) = (bx - ax) * ((bx - ax) * (qx - ax) + (by' - ay) * (qy - ay)) := by
    generalize bx - ax = p at *; generalize by' - ay = s at *; generalize qx - ax = r at *; generalize qy - ay = t at *
    have e : p * t = s * r := by omega
    rw [Int.add_mul, Int.mul_add, Int.mul_assoc, Int.mul_assoc, Int.mul_left_comm p s t, e]
  have e2 : ((bx - ax) * (bx - ax) + (by' - ay) * (by' - ay)) * (qy - ay) = (by' - ay) * ((bx - ax) * (qx - ax) + (by' - ay) * (qy - ay)) := by
    generalize bx - ax = p at *; generalize by' - ay = s at *; generalize qx - ax = r at *; generalize qy - ay = t at *
    have e : p * t = s * r := by omega
    rw [Int.add_mul, Int.mul_add, Int.mul_assoc, Int.mul_assoc, Int.mul_left_comm s p r, e]
  have q1 := part hl e1 h0 h1
  have q2 := part hl e2 h0 h1
  unfold btw
  simp only [decide_true, Bool.true_and, decide_eq_true_eq]
  omega
theorem on_first (ax ay bx by' : Int) : onB ax ay bx by' ax ay = true := by
  unfold onB btw crs; simp; omega
theorem on_last (ax ay bx by' : Int) : onB ax ay bx by' bx by' = true := by
  unfold onB btw crs
  rw [Int.mul_comm (by' - ay) (bx - ax), Int.sub_self]; simp; omega
theorem sqr_zero {ax ay qx qy : Int} (h : sqr ax ay qx qy ≤ 0) : ax = qx ∧ ay = qy := by
  unfold sqr at h
  have s1 := sq_nonneg (ax - qx); have s2 := sq_nonneg (ay - qy)
  have z : ∀ x : Int, x * x ≤ 0 → x = 0 := fun x hx => by
    rcases Int.lt_trichotomy x 0 with h | h | h
    · have := Int.mul_pos_of_neg_of_neg h h; omega
    · exact h
    · have := Int.mul_pos h h; omega
  have := z _ (show (ax - qx) * (ax - qx) ≤ 0 by omega)
  have := z _ (show (ay - qy) * (ay - qy) ≤ 0 by omega)
  omega
theorem far_zero {ax ay bx by' qx qy : Int} (h : onB ax ay bx by' qx qy = false) : farB ax ay bx by' qx qy 0 = true := by
  unfold farB
  rw [Int.zero_mul, Int.zero_mul]
  split
  · refine decide_eq_true ?_
    rcases Int.lt_or_le 0 (sqr ax ay qx qy) with hs | hs
    · exact hs
    · obtain ⟨rfl, rfl⟩ := sqr_zero hs
      rw [on_first] at h; cases h
  · rename_i hT
    split
    · refine decide_eq_true ?_
      rcases Int.lt_or_le 0 (sqr bx by' qx qy) with hs | hs
      · exact hs
      · obtain ⟨rfl, rfl⟩ := sqr_zero hs
        rw [on_last] at h; cases h
    · rename_i hL
      refine decide_eq_true ?_
      have s := sq_nonneg ((bx - ax) * (qy - ay) - (by' - ay) * (qx - ax))
      rcases Int.lt_or_le 0 (((bx - ax) * (qy - ay) - (by' - ay) * (qx - ax)) * ((bx - ax) * (qy - ay) - (by' - ay) * (qx - ax))) with hs | hs
      · exact hs
      · have hz : (bx - ax) * (qy - ay) - (by' - ay) * (qx - ax) = 0 := by
          rcases Int.lt_trichotomy ((bx - ax) * (qy - ay) - (by' - ay) * (qx - ax)) 0 with h | h | h
          · have := Int.mul_pos_of_neg_of_neg h h; omega
          · exact h
          · have := Int.mul_pos h h; omega
        rw [on_of_part hz (by omega) (by omega) (by omega)] at h; cases h
theorem fars_zero {n : Nat} {X Y : Nat → Int} {qx qy : Int} (h : plon n X Y qx qy n = false) : fars n X Y qx qy 0 n = true :=
  fars_of fun k hk => far_zero (plon_all h k hk)
end Poly
end Go.Proofs.Yteaccanhahmclaa
