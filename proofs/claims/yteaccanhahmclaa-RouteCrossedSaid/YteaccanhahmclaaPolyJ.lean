/- A segment that meets no edge of a polygon joins points on the same side of its border: plain laws. -/
import Derived.Test.YteaccanhahmclaaPolyQ
namespace Go.Proofs.Yteaccanhahmclaa
namespace Poly
open Plane
namespace Par
/-- What two segments' four turns and heights have to do with each other. -/
structure Rel (t1 t2 t3 t4 yu yv ya yb : Int) : Prop where
  a : t4 * (yv - yu) + t2 * (yv - ya) + t1 * (yb - yv) = 0
  b : t3 * (yv - yu) = t1 * (yu - yb) + t2 * (ya - yu)
  c : t1 * (yb - ya) = t4 * (yu - ya) - t3 * (yv - ya)
  d : t2 * (yb - ya) = t4 * (yu - yb) - t3 * (yv - yb)
theorem rel (ux uy vx vy ax ay bx by' : Int) : Rel (crs ux uy vx vy ax ay) (crs ux uy vx vy bx by') (crs ax ay bx by' ux uy) (crs ax ay bx by' vx vy) uy vy ay by' := by
  unfold crs
  exact ⟨by grind, by grind, by grind, by grind⟩
theorem Rel.neg {t1 t2 t3 t4 yu yv ya yb : Int} (h : Rel t1 t2 t3 t4 yu yv ya yb) : Rel (-t1) (-t2) (-t3) (-t4) yu yv ya yb := by
  have h1 := h.a; have h2 := h.b; have h3 := h.c; have h4 := h.d
  exact ⟨by grind, by grind, by grind, by grind⟩
theorem mp {a b : Int} (h : 0 < a) (g : 0 < b) : 0 < a * b := Int.mul_pos h g
theorem mn {a b : Int} (h : 0 ≤ a) (g : 0 ≤ b) : 0 ≤ a * b := Int.mul_nonneg h g
theorem neg_of {q b : Int} (h : q * b < 0) (g : 0 ≤ b) : q < 0 := by
  rcases (show q < 0 ∨ 0 ≤ q by omega) with hq | hq
  · exact hq
  · have := mn hq g; omega
theorem pos_of {q b : Int} (h : 0 < q * b) (g : 0 ≤ b) : 0 < q := by
  have h1 : (-q) * b < 0 := by rw [Int.neg_mul]; omega
  have := neg_of h1 g; omega
theorem c01 {t1 t2 t3 t4 yu yv ya yb : Int} (h : Rel t1 t2 t3 t4 yu yv ya yb) (o1 : yu ≤ ya) (o2 : ya < yv) (o3 : yv ≤ yb) (h1 : 0 < t1) (h4 : 0 < t4) : t2 < 0 ∧ t3 < 0 := by
  have e1 := h.a; have e2 := h.b
  have p1 := mp h4 (show 0 < yv - yu by omega)
  have p2 := mn (Int.le_of_lt h1) (show 0 ≤ yb - yv by omega)
  have q2 := neg_of (q := t2) (b := yv - ya) (by omega) (by omega)
  have p3 := mp h1 (show 0 < yb - yu by omega)
  have p4 := mn (show 0 ≤ -t2 by omega) (show 0 ≤ ya - yu by omega)
  rw [Int.neg_mul] at p4
  have p5 : t1 * (yu - yb) = -(t1 * (yb - yu)) := by rw [← Int.mul_neg, Int.neg_sub]
  exact ⟨q2, neg_of (q := t3) (b := yv - yu) (by omega) (by omega)⟩
theorem c12 {t1 t2 t3 t4 yu yv ya yb : Int} (h : Rel t1 t2 t3 t4 yu yv ya yb) (o1 : ya < yu) (o2 : yu ≤ yb) (o3 : yb < yv) (h2 : 0 < t2) (h3 : 0 < t3) : t1 < 0 ∧ t4 < 0 := by
  have e2 := h.b; have e4 := h.d
  have p1 := mp h3 (show 0 < yv - yu by omega)
  have p2 := mp h2 (show 0 < yu - ya by omega)
  have p5 : t1 * (yu - yb) = -(t1 * (yb - yu)) := by rw [← Int.mul_neg, Int.neg_sub]
  have p6 : t2 * (ya - yu) = -(t2 * (yu - ya)) := by rw [← Int.mul_neg, Int.neg_sub]
  have q1 := neg_of (q := t1) (b := yb - yu) (by omega) (by omega)
  have p7 := mp h2 (show 0 < yb - ya by omega)
  have p8 := mp h3 (show 0 < yv - yb by omega)
  have p9 : t4 * (yu - yb) = -(t4 * (yb - yu)) := by rw [← Int.mul_neg, Int.neg_sub]
  exact ⟨q1, neg_of (q := t4) (b := yb - yu) (by omega) (by omega)⟩
theorem c02 {t1 t2 t3 t4 yu yv ya yb : Int} (h : Rel t1 t2 t3 t4 yu yv ya yb) (o1 : yu ≤ ya) (o2 : ya ≤ yb) (o3 : yb < yv) (h1 : 0 < t1) (h2 : t2 < 0) : 0 < t4 ∧ (t3 < 0 ∨ t3 = 0 ∧ yu = ya ∧ ya = yb) := by
  have e1 := h.a; have e2 := h.b
  have p1 := mp (show 0 < -t2 by omega) (show 0 < yv - ya by omega)
  have p2 := mp h1 (show 0 < yv - yb by omega)
  rw [Int.neg_mul] at p1
  have p3 : t1 * (yb - yv) = -(t1 * (yv - yb)) := by rw [← Int.mul_neg, Int.neg_sub]
  refine ⟨pos_of (q := t4) (b := yv - yu) (by omega) (by omega), ?_⟩
  have p4 := mn (Int.le_of_lt h1) (show 0 ≤ yb - yu by omega)
  have p5 := mn (show 0 ≤ -t2 by omega) (show 0 ≤ ya - yu by omega)
  rw [Int.neg_mul] at p5
  have p6 : t1 * (yu - yb) = -(t1 * (yb - yu)) := by rw [← Int.mul_neg, Int.neg_sub]
  by_cases hz : yb - yu = 0
  · have hy : yu = ya ∧ ya = yb := by omega
    right
    refine ⟨?_, hy⟩
    rw [show yu - yb = 0 from by omega, show ya - yu = 0 from by omega, Int.mul_zero, Int.mul_zero] at e2
    rcases Int.mul_eq_zero.1 (show t3 * (yv - yu) = 0 by omega) with h0 | h0
    · exact h0
    · omega
  · left
    have p7 := mp h1 (show 0 < yb - yu by omega)
    exact neg_of (q := t3) (b := yv - yu) (by omega) (by omega)
theorem c11 {t1 t2 t3 t4 yu yv ya yb : Int} (h : Rel t1 t2 t3 t4 yu yv ya yb) (o1 : ya < yu) (o2 : ya < yv) (o3 : yu ≤ yb) (o4 : yv ≤ yb) (h3 : t3 < 0) (h4 : 0 < t4) : 0 < t1 ∧ (t2 < 0 ∨ t2 = 0 ∧ yu = yb ∧ yv = yb) := by
  have e3 := h.c; have e4 := h.d
  have p1 := mp h4 (show 0 < yu - ya by omega)
  have p2 := mp (show 0 < -t3 by omega) (show 0 < yv - ya by omega)
  rw [Int.neg_mul] at p2
  refine ⟨pos_of (q := t1) (b := yb - ya) (by omega) (by omega), ?_⟩
  have p3 := mn (Int.le_of_lt h4) (show 0 ≤ yb - yu by omega)
  have p4 := mn (show 0 ≤ -t3 by omega) (show 0 ≤ yb - yv by omega)
  rw [Int.neg_mul] at p4
  have p5 : t4 * (yu - yb) = -(t4 * (yb - yu)) := by rw [← Int.mul_neg, Int.neg_sub]
  have p6 : t3 * (yv - yb) = -(t3 * (yb - yv)) := by rw [← Int.mul_neg, Int.neg_sub]
  by_cases hz : yu = yb ∧ yv = yb
  · right
    refine ⟨?_, hz⟩
    rw [show yu - yb = 0 from by omega, show yv - yb = 0 from by omega, Int.mul_zero, Int.mul_zero] at e4
    rcases Int.mul_eq_zero.1 (show t2 * (yb - ya) = 0 by omega) with h0 | h0
    · exact h0
    · omega
  · left
    by_cases hu : yu = yb
    · have p7 := mp (show 0 < -t3 by omega) (show 0 < yb - yv by omega)
      rw [Int.neg_mul] at p7
      exact neg_of (q := t2) (b := yb - ya) (by omega) (by omega)
    · have p7 := mp h4 (show 0 < yb - yu by omega)
      exact neg_of (q := t2) (b := yb - ya) (by omega) (by omega)
end Par
/-- A point on the line of a segment, no higher than one end and no lower than the other, lies on it. -/
theorem col_btw {ax ay bx by' cx cy : Int} (h : crs ax ay bx by' cx cy = 0) (hy : ay < by') (h1 : ay ≤ cy) (h2 : cy ≤ by') : onB ax ay bx by' cx cy = true := by
  unfold onB btw
  rw [decide_eq_true h, Bool.true_and, decide_eq_true_eq]
  unfold crs at h
  have e : (cx - ax) * (by' - ay) = (bx - ax) * (cy - ay) := by rw [Int.mul_comm (cx - ax)]; omega
  have hx : (ax ≤ bx → ax ≤ cx ∧ cx ≤ bx) ∧ (bx ≤ ax → bx ≤ cx ∧ cx ≤ ax) := by
    constructor
    · intro hx
      have p1 := Par.mn (show 0 ≤ bx - ax by omega) (show 0 ≤ cy - ay by omega)
      have p2 := Par.mn (show 0 ≤ bx - ax by omega) (show 0 ≤ by' - cy by omega)
      constructor
      · rcases (show cx < ax ∨ ax ≤ cx by omega) with hl | hl
        · have := Par.mp (show 0 < ax - cx by omega) (show 0 < by' - ay by omega)
          have e2 : (ax - cx) * (by' - ay) = -((cx - ax) * (by' - ay)) := by rw [← Int.neg_mul, Int.neg_sub]
          omega
        · exact hl
      · rcases (show bx < cx ∨ cx ≤ bx by omega) with hl | hl
        · have := Par.mp (show 0 < cx - bx by omega) (show 0 < by' - ay by omega)
          have e2 : (cx - bx) * (by' - ay) = (cx - ax) * (by' - ay) - ((bx - ax) * (by' - cy) + (bx - ax) * (cy - ay)) := by grind
          omega
        · exact hl
    · intro hx
      have p1 := Par.mn (show 0 ≤ ax - bx by omega) (show 0 ≤ cy - ay by omega)
      have p2 := Par.mn (show 0 ≤ ax - bx by omega) (show 0 ≤ by' - cy by omega)
      have e3 : (bx - ax) * (cy - ay) = -((ax - bx) * (cy - ay)) := by rw [← Int.neg_mul, Int.neg_sub]
      constructor
      · rcases (show cx < bx ∨ bx ≤ cx by omega) with hl | hl
        · have := Par.mp (show 0 < bx - cx by omega) (show 0 < by' - ay by omega)
          have e2 : (bx - cx) * (by' - ay) = -((cx - ax) * (by' - ay)) - ((ax - bx) * (by' - cy) + (ax - bx) * (cy - ay)) := by grind
          omega
        · exact hl
      · rcases (show ax < cx ∨ cx ≤ ax by omega) with hl | hl
        · have := Par.mp (show 0 < cx - ax by omega) (show 0 < by' - ay by omega)
          omega
        · exact hl
  omega
theorem on_hor {ax ay bx by' cx cy : Int} (h : ay = by') (hc : cy = ay) (hx : ax ≤ cx ∧ cx ≤ bx ∨ bx ≤ cx ∧ cx ≤ ax) : onB ax ay bx by' cx cy = true := by
  unfold onB btw crs
  rw [← h, hc]
  rw [show ay - ay = 0 from by omega, Int.mul_zero, Int.zero_mul, decide_eq_true (by omega), Bool.true_and, decide_eq_true_eq]
  omega
theorem sgn_pos_iff {n : Int} : 0 < sgn n ↔ 0 < n := by unfold sgn; split <;> (try split) <;> omega
theorem sgn_neg_iff {n : Int} : sgn n < 0 ↔ n < 0 := by unfold sgn; split <;> (try split) <;> omega
theorem sgn_mul_neg {m n : Int} : sgn m * sgn n < 0 ↔ (0 < m ∧ n < 0) ∨ (m < 0 ∧ 0 < n) := by
  rcases Int.lt_trichotomy m 0 with hm | hm | hm <;> rcases Int.lt_trichotomy n 0 with hn | hn | hn
  · rw [sgn_neg hm, sgn_neg hn]; omega
  · rw [sgn_zero hn, Int.mul_zero]; omega
  · rw [sgn_neg hm, sgn_pos hn]; omega
  · rw [sgn_zero hm, Int.zero_mul]; omega
  · rw [sgn_zero hm, Int.zero_mul]; omega
  · rw [sgn_zero hm, Int.zero_mul]; omega
  · rw [sgn_pos hm, sgn_neg hn]; omega
  · rw [sgn_zero hn, Int.mul_zero]; omega
  · rw [sgn_pos hm, sgn_pos hn]; omega
theorem crossB_iff {ax ay bx by' cx cy dx dy : Int} : crossB ax ay bx by' cx cy dx dy = true ↔ ((0 < crs ax ay bx by' cx cy ∧ crs ax ay bx by' dx dy < 0) ∨ (crs ax ay bx by' cx cy < 0 ∧ 0 < crs ax ay bx by' dx dy)) ∧ ((0 < crs cx cy dx dy ax ay ∧ crs cx cy dx dy bx by' < 0) ∨ (crs cx cy dx dy ax ay < 0 ∧ 0 < crs cx cy dx dy bx by')) := by
  unfold crossB
  rw [Bool.and_eq_true, decide_eq_true_eq, decide_eq_true_eq, sgn_mul_neg, sgn_mul_neg]
theorem common_no {ax ay bx by' cx cy dx dy : Int} (h : commonB ax ay bx by' cx cy dx dy = false) : crossB ax ay bx by' cx cy dx dy = false ∧ onB ax ay bx by' cx cy = false ∧ onB ax ay bx by' dx dy = false ∧ onB cx cy dx dy ax ay = false ∧ onB cx cy dx dy bx by' = false := by
  unfold commonB at h
  simp only [Bool.or_eq_false_iff] at h
  exact ⟨h.1.1.1.1, h.1.1.1.2, h.1.1.2, h.1.2, h.2⟩
/-- A point is east of a segment, at its height. -/
def rr (ya yb yz t : Int) : Bool := (decide (ya < yz) != decide (yb < yz)) && ((decide (ya < yb) && decide (t < 0)) || (decide (yb < ya) && decide (0 < t)))
section
variable {ux uy vx vy ax ay bx by' : Int}
theorem t_false {b : Bool} (h : b = false) (g : b = true) : False := by rw [h] at g; cases g
theorem e01 (h : commonB ux uy vx vy ax ay bx by' = false) (o1 : uy ≤ ay) (o2 : ay < vy) (o3 : vy ≤ by') : 0 < crs ux uy vx vy ax ay ↔ crs ax ay bx by' vx vy < 0 := by
  obtain ⟨n1, n2, n3, n4, n5⟩ := common_no h
  have R := Par.rel ux uy vx vy ax ay bx by'
  have N := fun hh => t_false n1 (crossB_iff.2 hh)
  constructor
  · intro h1
    rcases Int.lt_trichotomy (crs ax ay bx by' vx vy) 0 with h4 | h4 | h4
    · exact h4
    · exact (t_false n5 (col_btw h4 (by omega) (by omega) (by omega))).elim
    · obtain ⟨q2, q3⟩ := Par.c01 R o1 o2 o3 h1 h4
      exact (N ⟨Or.inl ⟨h1, q2⟩, Or.inr ⟨q3, h4⟩⟩).elim
  · intro h4
    rcases Int.lt_trichotomy (crs ux uy vx vy ax ay) 0 with h1 | h1 | h1
    · obtain ⟨q2, q3⟩ := Par.c01 R.neg o1 o2 o3 (by omega) (by omega)
      exact (N ⟨Or.inr ⟨h1, by omega⟩, Or.inl ⟨by omega, h4⟩⟩).elim
    · exact (t_false n2 (col_btw h1 (by omega) (by omega) (by omega))).elim
    · exact h1
theorem e12 (h : commonB ux uy vx vy ax ay bx by' = false) (o1 : ay < uy) (o2 : uy ≤ by') (o3 : by' < vy) : 0 < crs ux uy vx vy bx by' ↔ crs ax ay bx by' ux uy < 0 := by
  obtain ⟨n1, n2, n3, n4, n5⟩ := common_no h
  have R := Par.rel ux uy vx vy ax ay bx by'
  have N := fun hh => t_false n1 (crossB_iff.2 hh)
  constructor
  · intro h2
    rcases Int.lt_trichotomy (crs ax ay bx by' ux uy) 0 with h3 | h3 | h3
    · exact h3
    · exact (t_false n4 (col_btw h3 (by omega) (by omega) (by omega))).elim
    · obtain ⟨q1, q4⟩ := Par.c12 R o1 o2 o3 h2 h3
      exact (N ⟨Or.inr ⟨q1, h2⟩, Or.inl ⟨h3, q4⟩⟩).elim
  · intro h3
    rcases Int.lt_trichotomy (crs ux uy vx vy bx by') 0 with h2 | h2 | h2
    · obtain ⟨q1, q4⟩ := Par.c12 R.neg o1 o2 o3 (by omega) (by omega)
      exact (N ⟨Or.inl ⟨by omega, h2⟩, Or.inr ⟨h3, by omega⟩⟩).elim
    · exact (t_false n3 (col_btw h2 (by omega) (by omega) (by omega))).elim
    · exact h2
theorem e02 (h : commonB ux uy vx vy ax ay bx by' = false) (o1 : uy ≤ ay) (o2 : ay ≤ by') (o3 : by' < vy) : 0 < crs ux uy vx vy ax ay ↔ 0 < crs ux uy vx vy bx by' := by
  obtain ⟨n1, n2, n3, n4, n5⟩ := common_no h
  have R := Par.rel ux uy vx vy ax ay bx by'
  have N := fun hh => t_false n1 (crossB_iff.2 hh)
  have key : ∀ (t : Int), uy = ay → ay = by' → crs ux uy vx vy ax ay = (vy - uy) * (ux - ax) ∧ crs ux uy vx vy bx by' = (vy - uy) * (ux - bx) := fun _ e1 e2 => by
    subst e1 e2
    unfold crs
    exact ⟨by grind, by grind⟩
  constructor
  · intro h1
    rcases Int.lt_trichotomy (crs ux uy vx vy bx by') 0 with h2 | h2 | h2
    · obtain ⟨q4, q3 | ⟨q3, e1, e2⟩⟩ := Par.c02 R o1 o2 o3 h1 h2
      · exact (N ⟨Or.inl ⟨h1, h2⟩, Or.inr ⟨q3, q4⟩⟩).elim
      · obtain ⟨k1, k2⟩ := key 0 e1 e2
        have z1 : 0 < ux - ax := Par.pos_of (b := vy - uy) (by rw [Int.mul_comm]; omega) (by omega)
        have z2 : ux - bx < 0 := Par.neg_of (b := vy - uy) (by rw [Int.mul_comm]; omega) (by omega)
        exact (t_false n4 (on_hor e2 (by omega) (by omega))).elim
    · exact (t_false n3 (col_btw h2 (by omega) (by omega) (by omega))).elim
    · exact h2
  · intro h2
    rcases Int.lt_trichotomy (crs ux uy vx vy ax ay) 0 with h1 | h1 | h1
    · obtain ⟨q4, q3 | ⟨q3, e1, e2⟩⟩ := Par.c02 R.neg o1 o2 o3 (by omega) (by omega)
      · exact (N ⟨Or.inr ⟨h1, h2⟩, Or.inl ⟨by omega, by omega⟩⟩).elim
      · obtain ⟨k1, k2⟩ := key 0 e1 e2
        have z1 : ux - ax < 0 := Par.neg_of (b := vy - uy) (by rw [Int.mul_comm]; omega) (by omega)
        have z2 : 0 < ux - bx := Par.pos_of (b := vy - uy) (by rw [Int.mul_comm]; omega) (by omega)
        exact (t_false n4 (on_hor e2 (by omega) (by omega))).elim
    · exact (t_false n2 (col_btw h1 (by omega) (by omega) (by omega))).elim
    · exact h1
theorem e11 (h : commonB ux uy vx vy ax ay bx by' = false) (o1 : ay < uy) (o2 : ay < vy) (o3 : uy ≤ by') (o4 : vy ≤ by') : crs ax ay bx by' ux uy < 0 ↔ crs ax ay bx by' vx vy < 0 := by
  obtain ⟨n1, n2, n3, n4, n5⟩ := common_no h
  have R := Par.rel ux uy vx vy ax ay bx by'
  have N := fun hh => t_false n1 (crossB_iff.2 hh)
  have key : ∀ (t : Int), uy = by' → vy = by' → crs ax ay bx by' ux uy = (by' - ay) * (bx - ux) ∧ crs ax ay bx by' vx vy = (by' - ay) * (bx - vx) := fun _ e1 e2 => by
    subst e1 e2
    unfold crs
    exact ⟨by grind, by grind⟩
  constructor
  · intro h3
    rcases Int.lt_trichotomy (crs ax ay bx by' vx vy) 0 with h4 | h4 | h4
    · exact h4
    · exact (t_false n5 (col_btw h4 (by omega) (by omega) (by omega))).elim
    · obtain ⟨q1, q2 | ⟨q2, e1, e2⟩⟩ := Par.c11 R o1 o2 o3 o4 h3 h4
      · exact (N ⟨Or.inl ⟨q1, q2⟩, Or.inr ⟨h3, h4⟩⟩).elim
      · obtain ⟨k1, k2⟩ := key 0 e1 e2
        have z1 : bx - ux < 0 := Par.neg_of (b := by' - ay) (by rw [Int.mul_comm]; omega) (by omega)
        have z2 : 0 < bx - vx := Par.pos_of (b := by' - ay) (by rw [Int.mul_comm]; omega) (by omega)
        exact (t_false n3 (on_hor (by omega) (by omega) (by omega))).elim
  · intro h4
    rcases Int.lt_trichotomy (crs ax ay bx by' ux uy) 0 with h3 | h3 | h3
    · exact h3
    · exact (t_false n4 (col_btw h3 (by omega) (by omega) (by omega))).elim
    · obtain ⟨q1, q2 | ⟨q2, e1, e2⟩⟩ := Par.c11 R.neg o1 o2 o3 o4 (by omega) (by omega)
      · exact (N ⟨Or.inr ⟨by omega, by omega⟩, Or.inl ⟨h3, h4⟩⟩).elim
      · obtain ⟨k1, k2⟩ := key 0 e1 e2
        have z1 : 0 < bx - ux := Par.pos_of (b := by' - ay) (by rw [Int.mul_comm]; omega) (by omega)
        have z2 : bx - vx < 0 := Par.neg_of (b := by' - ay) (by rw [Int.mul_comm]; omega) (by omega)
        exact (t_false n3 (on_hor (by omega) (by omega) (by omega))).elim
theorem edge_ord (h : commonB ux uy vx vy ax ay bx by' = false) (o1 : uy ≤ vy) (o2 : ay ≤ by') :
    (cr uy vy ay (sgn (crs ux uy vx vy ax ay)) ^^ cr uy vy by' (sgn (crs ux uy vx vy bx by'))) = (rr ay by' uy (sgn (crs ax ay bx by' ux uy)) ^^ rr ay by' vy (sgn (crs ax ay bx by' vx vy))) := by
  have d1 : decide (vy < uy) = false := decide_eq_false (by omega)
  have d2 : decide (by' < ay) = false := decide_eq_false (by omega)
  have E01 := fun a b c => e01 h (o1 := a) (o2 := b) (o3 := c)
  have E12 := fun a b c => e12 h (o1 := a) (o2 := b) (o3 := c)
  have E02 := fun a c => e02 h (o1 := a) (o2 := o2) (o3 := c)
  have E11 := fun a b c d => e11 h (o1 := a) (o2 := b) (o3 := c) (o4 := d)
  unfold cr rr
  simp only [d1, d2, Bool.false_and, Bool.or_false, sgn_pos_iff, sgn_neg_iff]
  generalize crs ux uy vx vy ax ay = t1 at *
  generalize crs ux uy vx vy bx by' = t2 at *
  generalize crs ax ay bx by' ux uy = t3 at *
  generalize crs ax ay bx by' vx vy = t4 at *
  by_cases a1 : ay < uy <;> by_cases a2 : by' < uy <;> by_cases a3 : ay < vy <;> by_cases a4 : by' < vy
  all_goals first
    | (exfalso; omega)
    | (have f1 := E01 (by omega) (by omega) (by omega)
       have g1 : uy < vy := by omega
       have g2 : ay < by' := by omega
       by_cases x : 0 < t1
       · have y := f1.1 x; simp [a1, a2, a3, a4, g1, g2, x, y]
       · have y : ¬ t4 < 0 := fun y => x (f1.2 y)
         simp [a1, a2, a3, a4, g1, g2, x, y])
    | (have f1 := E12 (by omega) (by omega) (by omega)
       have g1 : uy < vy := by omega
       have g2 : ay < by' := by omega
       by_cases x : 0 < t2
       · have y := f1.1 x; simp [a1, a2, a3, a4, g1, g2, x, y]
       · have y : ¬ t3 < 0 := fun y => x (f1.2 y)
         simp [a1, a2, a3, a4, g1, g2, x, y])
    | (have f1 := E02 (by omega) (by omega)
       have g1 : uy < vy := by omega
       by_cases x : 0 < t1
       · have y := f1.1 x; simp [a1, a2, a3, a4, g1, x, y]
       · have y : ¬ 0 < t2 := fun y => x (f1.2 y)
         simp [a1, a2, a3, a4, g1, x, y])
    | (have f1 := E11 (by omega) (by omega) (by omega) (by omega)
       have g2 : ay < by' := by omega
       by_cases x : t3 < 0
       · have y := f1.1 x; simp [a1, a2, a3, a4, g2, x, y]
       · have y : ¬ t4 < 0 := fun y => x (f1.2 y)
         simp [a1, a2, a3, a4, g2, x, y])
    | simp [a1, a2, a3, a4]
end
namespace J
theorem crs_swap (ax ay bx by' cx cy : Int) : crs bx by' ax ay cx cy = -crs ax ay bx by' cx cy := by
  unfold crs
  have e1 : (ax - bx) * (cy - by') - (ay - by') * (cx - bx) = -((bx - ax) * (cy - ay) - (by' - ay) * (cx - ax)) := by
    simp only [Int.sub_mul, Int.mul_sub]
    have := Int.mul_comm ax by'; have := Int.mul_comm bx ay; have := Int.mul_comm bx by'; have := Int.mul_comm ax ay
    omega
  exact e1
theorem crs_same (ax ay bx by' : Int) : crs ax ay bx by' ax ay = 0 := by unfold crs; simp
theorem btw_swap (ax ay bx by' cx cy : Int) : btw bx by' ax ay cx cy = btw ax ay bx by' cx cy := by
  unfold btw; rw [decide_eq_decide]; omega
theorem on_swap (ax ay bx by' cx cy : Int) : onB bx by' ax ay cx cy = onB ax ay bx by' cx cy := by
  unfold onB; rw [btw_swap, crs_swap]
  congr 1
  rw [decide_eq_decide]; omega
theorem on_end (ax ay bx by' : Int) : onB ax ay bx by' ax ay = true := by
  unfold onB btw; rw [crs_same]; simp; omega
theorem cross_swap (ax ay bx by' cx cy dx dy : Int) : crossB bx by' ax ay dx dy cx cy = crossB ax ay bx by' cx cy dx dy := by
  unfold crossB
  rw [crs_swap ax ay bx by' dx dy, crs_swap ax ay bx by' cx cy, crs_swap cx cy dx dy bx by', crs_swap cx cy dx dy ax ay]
  simp only [sgn_opp, Int.neg_mul_neg]
  rw [Int.mul_comm (sgn (crs ax ay bx by' dx dy)), Int.mul_comm (sgn (crs cx cy dx dy bx by'))]
theorem common_sym (ax ay bx by' cx cy dx dy : Int) : commonB cx cy dx dy ax ay bx by' = commonB ax ay bx by' cx cy dx dy := by
  unfold commonB crossB
  rw [Bool.and_comm]
  cases (decide (sgn (crs ax ay bx by' cx cy) * sgn (crs ax ay bx by' dx dy) < 0) && decide (sgn (crs cx cy dx dy ax ay) * sgn (crs cx cy dx dy bx by') < 0)) <;> cases onB cx cy dx dy ax ay <;> cases onB cx cy dx dy bx by' <;> cases onB ax ay bx by' cx cy <;> cases onB ax ay bx by' dx dy <;> rfl
theorem common_swap (ax ay bx by' cx cy dx dy : Int) : commonB bx by' ax ay dx dy cx cy = commonB ax ay bx by' cx cy dx dy := by
  unfold commonB
  rw [cross_swap, on_swap ax ay bx by' dx dy, on_swap ax ay bx by' cx cy, on_swap cx cy dx dy bx by', on_swap cx cy dx dy ax ay]
  cases crossB ax ay bx by' cx cy dx dy <;> cases onB cx cy dx dy ax ay <;> cases onB cx cy dx dy bx by' <;> cases onB ax ay bx by' cx cy <;> cases onB ax ay bx by' dx dy <;> rfl
theorem common_one (ax ay bx by' cx cy dx dy : Int) : commonB ax ay bx by' dx dy cx cy = commonB ax ay bx by' cx cy dx dy := by
  unfold commonB crossB
  rw [on_swap dx dy cx cy ax ay, on_swap dx dy cx cy bx by', crs_swap dx dy cx cy ax ay, crs_swap dx dy cx cy bx by', sgn_opp, sgn_opp, Int.neg_mul_neg, Int.mul_comm (sgn (crs ax ay bx by' dx dy))]
  generalize onB ax ay bx by' cx cy = o1; generalize onB ax ay bx by' dx dy = o2; generalize onB cx cy dx dy ax ay = o3; generalize onB cx cy dx dy bx by' = o4
  cases o1 <;> cases o2 <;> cases o3 <;> cases o4 <;> simp
theorem common_two (ax ay bx by' cx cy dx dy : Int) : commonB bx by' ax ay cx cy dx dy = commonB ax ay bx by' cx cy dx dy := by
  rw [← common_one, common_swap]
theorem cr_swap (ya yb q t : Int) : cr yb ya q (-t) = cr ya yb q t := by
  unfold cr
  by_cases h1 : q < ya <;> by_cases h2 : q < yb <;> by_cases h3 : 0 < t <;> by_cases h4 : t < 0 <;> by_cases h5 : ya < yb <;> by_cases h6 : yb < ya <;> first | (exfalso; omega) | grind
theorem rr_swap (ya yb q t : Int) : rr yb ya q (-t) = rr ya yb q t := by
  unfold rr
  by_cases h1 : ya < q <;> by_cases h2 : yb < q <;> by_cases h3 : 0 < t <;> by_cases h4 : t < 0 <;> by_cases h5 : ya < yb <;> by_cases h6 : yb < ya <;> first | (exfalso; omega) | grind
end J
theorem edge_par {ux uy vx vy ax ay bx by' : Int} (h : commonB ux uy vx vy ax ay bx by' = false) :
    (cr uy vy ay (sgn (crs ux uy vx vy ax ay)) ^^ cr uy vy by' (sgn (crs ux uy vx vy bx by'))) = (rr ay by' uy (sgn (crs ax ay bx by' ux uy)) ^^ rr ay by' vy (sgn (crs ax ay bx by' vx vy))) := by
  have step : ∀ (ux uy vx vy : Int), uy ≤ vy → commonB ux uy vx vy ax ay bx by' = false → (cr uy vy ay (sgn (crs ux uy vx vy ax ay)) ^^ cr uy vy by' (sgn (crs ux uy vx vy bx by'))) = (rr ay by' uy (sgn (crs ax ay bx by' ux uy)) ^^ rr ay by' vy (sgn (crs ax ay bx by' vx vy))) := by
    intro ux uy vx vy o h
    rcases Int.le_total ay by' with o2 | o2
    · exact edge_ord h o o2
    · have e := edge_ord (ax := bx) (ay := by') (bx := ax) (by' := ay) (by rw [J.common_one]; exact h) o o2
      rw [Bool.xor_comm] at e
      rw [e, ← J.rr_swap by' ay uy, ← J.rr_swap by' ay vy, ← sgn_opp, ← sgn_opp, ← J.crs_swap bx by' ax ay, ← J.crs_swap bx by' ax ay]
  rcases Int.le_total uy vy with o | o
  · exact step ux uy vx vy o h
  · have e := step vx vy ux uy o (by rw [J.common_two]; exact h)
    rw [Bool.xor_comm (rr ay by' uy _), ← e, ← J.cr_swap uy vy ay, ← J.cr_swap uy vy by', ← sgn_opp, ← sgn_opp, ← J.crs_swap ux uy vx vy, ← J.crs_swap ux uy vx vy]
section
variable {n : Nat} {X Y : Nat → Int} {ax ay bx by' : Int}
theorem pin_par (h : ∀ k, k < n → commonB (X k) (Y k) (X (nx n k)) (Y (nx n k)) ax ay bx by' = false) : ∀ k, k ≤ n →
    pin n X Y ax ay k = if (rr ay by' (Y 0) (sgn (crs ax ay bx by' (X 0) (Y 0))) ^^ rr ay by' (Y (k % n)) (sgn (crs ax ay bx by' (X (k % n)) (Y (k % n))))) = true then -pin n X Y bx by' k else pin n X Y bx by' k
  | 0, _ => by rw [Nat.zero_mod, Bool.xor_self, if_neg (by decide)]; rfl
  | k + 1, hk => by
    have ih := pin_par h k (by omega)
    have e := edge_par (h k (by omega))
    show (if cr (Y k) (Y (nx n k)) ay (sgn (crs (X k) (Y k) (X (nx n k)) (Y (nx n k)) ax ay)) then - pin n X Y ax ay k else pin n X Y ax ay k) = if _ then -(if cr (Y k) (Y (nx n k)) by' (sgn (crs (X k) (Y k) (X (nx n k)) (Y (nx n k)) bx by')) then - pin n X Y bx by' k else pin n X Y bx by' k) else (if cr (Y k) (Y (nx n k)) by' (sgn (crs (X k) (Y k) (X (nx n k)) (Y (nx n k)) bx by')) then - pin n X Y bx by' k else pin n X Y bx by' k)
    rw [show k % n = k from Nat.mod_eq_of_lt (by omega)] at ih
    rw [ih, show (k + 1) % n = nx n k from rfl]
    generalize cr (Y k) (Y (nx n k)) ay (sgn (crs (X k) (Y k) (X (nx n k)) (Y (nx n k)) ax ay)) = c1 at *
    generalize cr (Y k) (Y (nx n k)) by' (sgn (crs (X k) (Y k) (X (nx n k)) (Y (nx n k)) bx by')) = c2 at *
    generalize rr ay by' (Y 0) (sgn (crs ax ay bx by' (X 0) (Y 0))) = r0 at *
    generalize rr ay by' (Y k) (sgn (crs ax ay bx by' (X k) (Y k))) = r1 at *
    generalize rr ay by' (Y (nx n k)) (sgn (crs ax ay bx by' (X (nx n k)) (Y (nx n k)))) = r2 at *
    generalize pin n X Y bx by' k = z
    revert e
    cases c1 <;> cases c2 <;> cases r0 <;> cases r1 <;> cases r2 <;> simp
theorem plon_no {qx qy : Int} : ∀ {m : Nat}, (∀ k, k < m → onB (X k) (Y k) (X (nx n k)) (Y (nx n k)) qx qy = false) → plon n X Y qx qy m = false
  | 0, _ => rfl
  | m + 1, h => on_next (plon_no fun k hk => h k (by omega)) (h m (by omega))
/-- Two points that are joined by a segment that meets no edge have the same position. -/
theorem place_par (h : ∀ k, k < n → commonB (X k) (Y k) (X (nx n k)) (Y (nx n k)) ax ay bx by' = false) : place n X Y ax ay = place n X Y bx by' := by
  have e := pin_par h n (Nat.le_refl _)
  rw [Nat.mod_self, Bool.xor_self, if_neg (by decide)] at e
  unfold place
  rw [plon_no fun k hk => (common_no (h k hk)).2.1, plon_no fun k hk => (common_no (h k hk)).2.2.1, e]
theorem mee_no : ∀ {m : Nat}, mee n X Y ax ay bx by' m = false → ∀ k, k < m → commonB (X k) (Y k) (X (nx n k)) (Y (nx n k)) ax ay bx by' = false
  | 0, _, k, hk => by omega
  | m + 1, h, k, hk => by
    cases hc : commonB (X k) (Y k) (X (nx n k)) (Y (nx n k)) ax ay bx by' with
    | false => rfl
    | true => rw [mee_stop hc (m + 1) hk] at h; cases h
theorem mee_of : ∀ {m : Nat}, (∀ k, k < m → commonB (X k) (Y k) (X (nx n k)) (Y (nx n k)) ax ay bx by' = false) → mee n X Y ax ay bx by' m = false
  | 0, _ => rfl
  | m + 1, h => by
    show (mee n X Y ax ay bx by' m || commonB (X m) (Y m) (X (nx n m)) (Y (nx n m)) ax ay bx by') = false
    rw [mee_of fun k hk => h k (by omega), h m (by omega)]; rfl
end
end Poly
end Go.Proofs.Yteaccanhahmclaa
