/- Plain facts on points of the plane: squares, roots, turns. No program. -/
import Derived.Test.YtokioemmjfjhkaaNumP
namespace Go.Proofs.Ytokioemmjfjhkaa
open Go.RowKit
namespace Plane
theorem sq_nonneg (x : Int) : 0 ≤ x * x := by
  rcases Int.le_total 0 x with h | h
  · exact Int.mul_nonneg h h
  · have := Int.mul_nonneg (show 0 ≤ -x by omega) (show 0 ≤ -x by omega); rwa [Int.neg_mul_neg] at this
theorem mul_bd {x y M N : Int} (h : -M ≤ x ∧ x ≤ M) (k : -N ≤ y ∧ y ≤ N) : -(M * N) ≤ x * y ∧ x * y ≤ M * N := by
  have h1 : 0 ≤ (M - x) * (N + y) := Int.mul_nonneg (by omega) (by omega)
  have h2 : 0 ≤ (M + x) * (N - y) := Int.mul_nonneg (by omega) (by omega)
  have h3 : 0 ≤ (M - x) * (N - y) := Int.mul_nonneg (by omega) (by omega)
  have h4 : 0 ≤ (M + x) * (N + y) := Int.mul_nonneg (by omega) (by omega)
  have e1 : (M - x) * (N + y) = M * N + M * y - x * N - x * y := by grind
  have e2 : (M + x) * (N - y) = M * N - M * y + x * N - x * y := by grind
  have e3 : (M - x) * (N - y) = M * N - M * y - x * N + x * y := by grind
  have e4 : (M + x) * (N + y) = M * N + M * y + x * N + x * y := by grind
  rw [e1] at h1; rw [e2] at h2; rw [e3] at h3; rw [e4] at h4
  generalize M * N = a at *; generalize M * y = b at *; generalize x * N = c at *; generalize x * y = d at *
  omega
theorem sq_le_of {x M : Int} (h : -M ≤ x ∧ x ≤ M) : x * x ≤ M * M := (mul_bd h h).2
theorem sq_mono {x y : Int} (h0 : 0 ≤ x) (h : x ≤ y) : x * x ≤ y * y := Int.mul_le_mul h h h0 (by omega)
theorem le_of_sq {x y : Int} (h0 : 0 ≤ y) (h : x * x ≤ y * y) : x ≤ y := by
  rcases Int.lt_or_le y x with hlt | hge
  · exfalso
    have h1 : (y + 1) * (y + 1) ≤ x * x := sq_mono (by omega) (by omega)
    have h2 : (y + 1) * (y + 1) = y * y + 2 * y + 1 := by grind
    generalize y * y = a at *; generalize x * x = b at *; omega
  · exact hge
theorem lt_of_sq {x y : Int} (h0 : 0 ≤ y) (h : x * x < y * y) : x < y := by
  rcases Int.lt_or_le x y with hlt | hge
  · exact hlt
  · have := sq_mono h0 hge; generalize y * y = a at *; generalize x * x = b at *; omega
/-- The integer root. -/
def isq : Nat → Nat
  | 0 => 0
  | n + 1 => if (isq n + 1) * (isq n + 1) ≤ n + 1 then isq n + 1 else isq n
theorem isq_spec (n : Nat) : isq n * isq n ≤ n ∧ n < (isq n + 1) * (isq n + 1) := by
  induction n with
  | zero => exact ⟨Nat.le_refl 0, Nat.zero_lt_one⟩
  | succ n ih =>
    obtain ⟨h1, h2⟩ := ih
    unfold isq
    split
    · rename_i h
      refine ⟨h, ?_⟩
      have e : (isq n + 1 + 1) * (isq n + 1 + 1) = (isq n + 1) * (isq n + 1) + 2 * (isq n + 1) + 1 := by grind
      rw [e]; generalize (isq n + 1) * (isq n + 1) = t at *; omega
    · rename_i h
      refine ⟨by omega, by omega⟩
def root (n : Int) : Int := (isq n.toNat : Nat)
theorem root_spec {n : Int} (h : 0 ≤ n) : 0 ≤ root n ∧ root n * root n ≤ n ∧ n < (root n + 1) * (root n + 1) := by
  obtain ⟨h1, h2⟩ := isq_spec n.toNat
  unfold root
  refine ⟨by omega, ?_, ?_⟩
  · have : ((isq n.toNat * isq n.toNat : Nat) : Int) ≤ n := by omega
    simpa using this
  · have : n < (((isq n.toNat + 1) * (isq n.toNat + 1) : Nat) : Int) := by omega
    simpa using this
theorem root_unique {n r : Int} (h0 : 0 ≤ r) (h1 : r * r ≤ n) (h2 : n < (r + 1) * (r + 1)) : root n = r := by
  have hn : 0 ≤ n := by have := sq_nonneg r; omega
  obtain ⟨g0, g1, g2⟩ := root_spec hn
  have a1 : r < root n + 1 := lt_of_sq (by omega) (by generalize r * r = a at *; generalize (root n + 1) * (root n + 1) = b at *; omega)
  have a2 : root n < r + 1 := lt_of_sq (by omega) (by generalize root n * root n = a at *; generalize (r + 1) * (r + 1) = b at *; omega)
  omega
theorem root_le {n : Int} (h : n ≤ 9223372036854775807) : root n ≤ 3037000499 := by
  rcases Int.lt_or_le n 0 with hn | hn
  · have : root n = 0 := by unfold root; rw [Int.toNat_of_nonpos (by omega)]; rfl
    omega
  · obtain ⟨g0, g1, _⟩ := root_spec hn
    have : root n < 3037000500 := lt_of_sq (by omega) (by generalize root n * root n = a at *; omega)
    omega
theorem root_nonneg (n : Int) : 0 ≤ root n := by unfold root; omega
/-- The squared distance. -/
def sqr (ax ay bx by' : Int) : Int := (ax - bx) * (ax - bx) + (ay - by') * (ay - by')
theorem sqr_nonneg (ax ay bx by' : Int) : 0 ≤ sqr ax ay bx by' := by
  have := sq_nonneg (ax - bx); have := sq_nonneg (ay - by'); unfold sqr; omega
theorem sqr_wrap {ax ay bx by' M : Int} (hM : M = 1000000000) (h : (-M ≤ ax ∧ ax ≤ M) ∧ (-M ≤ ay ∧ ay ≤ M) ∧ (-M ≤ bx ∧ bx ≤ M) ∧ (-M ≤ by' ∧ by' ≤ M)) :
    wrap64 (wrap64 (wrap64 (ax - bx) * wrap64 (ax - bx)) + wrap64 (wrap64 (ay - by') * wrap64 (ay - by'))) = sqr ax ay bx by' ∧ sqr ax ay bx by' ≤ 8000000000000000000 := by
  subst hM
  have b1 := sq_le_of (x := ax - bx) (M := 2000000000) (by omega)
  have b2 := sq_le_of (x := ay - by') (M := 2000000000) (by omega)
  have c1 := sq_nonneg (ax - bx); have c2 := sq_nonneg (ay - by')
  rw [IntWalk.wrap64_in (ax - bx) (by omega), IntWalk.wrap64_in (ay - by') (by omega)]
  unfold sqr
  generalize (ax - bx) * (ax - bx) = p at *; generalize (ay - by') * (ay - by') = q at *
  rw [IntWalk.wrap64_in p (by omega), IntWalk.wrap64_in q (by omega), IntWalk.wrap64_in (p + q) (by omega)]
  exact ⟨rfl, by omega⟩
/-- Distance, rounded down and up. -/
def dlow (n : Int) : Int := root n
def dup (n : Int) : Int := if root n * root n < n then root n + 1 else root n
theorem dup_spec {n : Int} (h : 0 ≤ n) : 0 ≤ dup n ∧ n ≤ dup n * dup n ∧ (0 < n → (dup n - 1) * (dup n - 1) < n) := by
  obtain ⟨g0, g1, g2⟩ := root_spec h
  unfold dup
  by_cases hlt : root n * root n < n
  · rw [if_pos hlt]
    refine ⟨by omega, by omega, fun _ => ?_⟩
    rw [show root n + 1 - 1 = root n from by omega]; exact hlt
  · rw [if_neg hlt]
    refine ⟨g0, by omega, fun hp => ?_⟩
    have e : (root n - 1) * (root n - 1) = root n * root n - 2 * root n + 1 := by grind
    have hr : root n ≠ 0 := by intro hz; rw [hz] at hlt; omega
    rw [e]; generalize root n * root n = t at *; omega
theorem dup_le {n : Int} (h0 : 0 ≤ n) (h : n ≤ 8000000000000) : dup n ≤ 2828428 ∧ root n ≤ 2828428 := by
  obtain ⟨_, _, h3⟩ := dup_spec h0
  obtain ⟨_, g, _⟩ := root_spec h0
  have e1 : root n < 2828428 := lt_of_sq (by omega) (by generalize root n * root n = t at *; omega)
  have e2 : dup n - 1 < 2828428 := by
    by_cases hp : 0 < n
    · exact lt_of_sq (by omega) (by have := h3 hp; generalize (dup n - 1) * (dup n - 1) = t at *; omega)
    · have : n = 0 := by omega
      subst this
      unfold dup; split <;> omega
  omega
theorem dup_near (n : Int) : root n ≤ dup n ∧ dup n ≤ root n + 1 := by
  unfold dup; split <;> omega
/-- A point is permitted. -/
abbrev good (x y : Int) : Prop := -1000000 ≤ x ∧ x ≤ 1000000 ∧ -1000000 ≤ y ∧ y ≤ 1000000
theorem sqr_near {ax ay bx by' : Int} (ha : good ax ay) (hb : good bx by') : sqr ax ay bx by' ≤ 8000000000000 := by
  have b1 := sq_le_of (x := ax - bx) (M := 2000000) (by omega)
  have b2 := sq_le_of (x := ay - by') (M := 2000000) (by omega)
  unfold sqr; omega
/-- Check's error. -/
def chk (x y : Int) : Int := if x < -1000000 ∨ 1000000 < x ∨ y < -1000000 ∨ 1000000 < y then 4 else 0
theorem chk_ok {x y : Int} (h : good x y) : chk x y = 0 := by unfold good at h; unfold chk; rw [if_neg (by omega)]
theorem chk_bad {x y : Int} (h : ¬ good x y) : chk x y = 4 := by unfold good at h; unfold chk; rw [if_pos (by omega)]
def sgn (n : Int) : Int := if 0 < n then 1 else if n < 0 then -1 else 0
theorem sgn_pos {n : Int} (h : 0 < n) : sgn n = 1 := if_pos h
theorem sgn_neg {n : Int} (h : n < 0) : sgn n = -1 := by unfold sgn; rw [if_neg (by omega), if_pos h]
theorem sgn_zero {n : Int} (h : n = 0) : sgn n = 0 := by unfold sgn; rw [if_neg (by omega), if_neg (by omega)]
theorem sgn_opp (n : Int) : sgn (-n) = -sgn n := by
  rcases Int.lt_trichotomy n 0 with h | h | h
  · rw [sgn_neg h, sgn_pos (show 0 < -n by omega)]; rfl
  · subst h; rfl
  · rw [sgn_pos h, sgn_neg (show -n < 0 by omega)]
theorem sgn_bd (n : Int) : -1 ≤ sgn n ∧ sgn n ≤ 1 := by unfold sgn; split <;> (try split) <;> omega
/-- Within. -/
def inB (s d : Int) : Bool := decide (0 ≤ d ∧ d ≤ 8000000 ∧ s ≤ d * d)
/-- Good. -/
def goodB (x y : Int) : Bool := decide (-1000000 ≤ x ∧ x ≤ 1000000 ∧ -1000000 ≤ y ∧ y ≤ 1000000)
theorem goodB_iff {x y : Int} : goodB x y = true ↔ good x y := by unfold goodB good; rw [decide_eq_true_eq]
/-- Toward's error, where both points are given. -/
def twe (ax ay bx by' n d : Int) : Int := if d ≤ 0 then 10 else if 200000 < d ∨ n < 0 ∨ d < n ∨ ¬ good ax ay ∨ ¬ good bx by' then 4 else 0
/-- Toward's point, where there is no error. -/
def tw (a b n d : Int) : Int := a + (b - a) * n / d
theorem twe_ok {ax ay bx by' n d : Int} (h0 : 0 < d) (h1 : d ≤ 200000) (h2 : 0 ≤ n) (h3 : n ≤ d) (ga : good ax ay) (gb : good bx by') : twe ax ay bx by' n d = 0 := by
  unfold twe
  rw [if_neg (by omega), if_neg]
  intro h
  rcases h with h | h | h | h | h
  · omega
  · omega
  · omega
  · exact h ga
  · exact h gb
/-- The triangle's law on squares. -/
theorem tri_sq {px py qx qy u v : Int} (hu : 0 ≤ u) (hv : 0 ≤ v) (h1 : px * px + py * py ≤ u * u) (h2 : qx * qx + qy * qy ≤ v * v) : (px + qx) * (px + qx) + (py + qy) * (py + qy) ≤ (u + v) * (u + v) := by
  have hid : (px * qx + py * qy) * (px * qx + py * qy) + (px * qy - py * qx) * (px * qy - py * qx) = (px * px + py * py) * (qx * qx + qy * qy) := by grind
  have hs := sq_nonneg (px * qy - py * qx)
  have hp0 : 0 ≤ px * px + py * py := by have := sq_nonneg px; have := sq_nonneg py; omega
  have hq0 : 0 ≤ qx * qx + qy * qy := by have := sq_nonneg qx; have := sq_nonneg qy; omega
  have hm : (px * px + py * py) * (qx * qx + qy * qy) ≤ (u * u) * (v * v) := Int.mul_le_mul h1 h2 hq0 (sq_nonneg u)
  have he : (u * u) * (v * v) = (u * v) * (u * v) := by grind
  have hc : px * qx + py * qy ≤ u * v := by
    refine le_of_sq (Int.mul_nonneg hu hv) ?_
    generalize (px * qx + py * qy) * (px * qx + py * qy) = a at *
    generalize (px * qy - py * qx) * (px * qy - py * qx) = b at *
    omega
  have e1 : (px + qx) * (px + qx) + (py + qy) * (py + qy) = (px * px + py * py) + (qx * qx + qy * qy) + 2 * (px * qx + py * qy) := by grind
  have e2 : (u + v) * (u + v) = u * u + v * v + 2 * (u * v) := by grind
  rw [e1, e2]
  generalize px * px + py * py = a at *; generalize qx * qx + qy * qy = b at *; generalize px * qx + py * qy = c at *
  omega
/-- Two distances make a third one. -/
theorem triangle {px py qx qy u v x : Int} (hu : 0 ≤ u) (hv : 0 ≤ v) (h1 : px * px + py * py ≤ u * u) (h2 : qx * qx + qy * qy ≤ v * v) (hx : x * x ≤ (px + qx) * (px + qx) + (py + qy) * (py + qy)) : x ≤ u + v :=
  le_of_sq (by omega) (Int.le_trans hx (tri_sq hu hv h1 h2))
theorem tw_zero {a b d : Int} : tw a b 0 d = a := by unfold tw; rw [Int.mul_zero, Int.zero_ediv, Int.add_zero]
theorem tw_all {a b d : Int} (h : d ≠ 0) : tw a b d d = b := by unfold tw; rw [Int.mul_ediv_cancel _ h]; omega
/-- The point on the way lies between the ends. -/
theorem tw_bd {a b n d : Int} (hd : 0 < d) (hn : 0 ≤ n) (hnd : n ≤ d) : (a ≤ tw a b n d ∨ b ≤ tw a b n d) ∧ (tw a b n d ≤ a ∨ tw a b n d ≤ b) := by
  unfold tw
  rcases Int.le_total a b with h | h
  · have h1 : 0 ≤ (b - a) * n / d := Int.ediv_nonneg (Int.mul_nonneg (by omega) hn) (by omega)
    have h2 : (b - a) * n / d ≤ b - a := by
      have e := Int.mul_le_mul_of_nonneg_left hnd (show 0 ≤ b - a by omega)
      have := Int.ediv_le_ediv hd e
      rw [Int.mul_ediv_cancel _ (by omega)] at this; exact this
    omega
  · have h1 : (b - a) * n / d ≤ 0 := by
      have e : (b - a) * n ≤ 0 := by
        have := Int.mul_nonneg (show 0 ≤ a - b by omega) hn
        have e2 : (b - a) * n = -((a - b) * n) := by grind
        omega
      have := Int.ediv_le_ediv hd e
      rw [Int.zero_ediv] at this; exact this
    have h2 : b - a ≤ (b - a) * n / d := by
      have e : (b - a) * d ≤ (b - a) * n := by
        have := Int.mul_le_mul_of_nonneg_left hnd (show 0 ≤ a - b by omega)
        have e2 : (b - a) * n = -((a - b) * n) := by grind
        have e3 : (b - a) * d = -((a - b) * d) := by grind
        omega
      have := Int.ediv_le_ediv hd e
      rw [Int.mul_ediv_cancel _ (by omega)] at this; exact this
    omega
theorem way_end {W P E n d : Int} (hd : 0 < d) (hnd : n ≤ d) (q1 : d * E ≤ W * n) (q2 : W * n < d * E + d) (k1 : d * P ≤ n * (W + 1) + 2 * d) (k2 : n * W ≤ d * (P + 1) + 2 * d) : E - 4 ≤ P ∧ P ≤ E + 4 := by
  have e1 : n * (W + 1) = W * n + n := by grind
  have e2 : d * (P + 1) = d * P + d := by grind
  have e3 : n * W = W * n := Int.mul_comm _ _
  rw [e1] at k1; rw [e2, e3] at k2
  constructor
  · rcases Int.lt_or_le P (E - 4) with h | h
    · exfalso
      have := Int.mul_le_mul_of_nonneg_left (show P + 5 ≤ E by omega) (show 0 ≤ d by omega)
      have e : d * (P + 5) = d * P + 5 * d := by grind
      omega
    · exact h
  · rcases Int.lt_or_le (E + 4) P with h | h
    · exfalso
      have := Int.mul_le_mul_of_nonneg_left (show E + 5 ≤ P by omega) (show 0 ≤ d by omega)
      have e : d * (E + 5) = d * E + 5 * d := by grind
      omega
    · exact h
/-- The point on the way, its distance from the start, and the exact part. -/
theorem way {vx vy qx qy rx ry n d W P s : Int} (hd : 0 < d) (hn : 0 ≤ n) (_hnd : n ≤ d) (hW : 0 ≤ W) (hP : 0 ≤ P) (hs : s = vx * vx + vy * vy) (w1 : W * W ≤ s) (w2 : s < (W + 1) * (W + 1))
    (p1 : P * P ≤ qx * qx + qy * qy) (p2 : qx * qx + qy * qy < (P + 1) * (P + 1)) (ex : d * qx + rx = n * vx) (ey : d * qy + ry = n * vy) (rx0 : 0 ≤ rx) (rx1 : rx < d) (ry0 : 0 ≤ ry) (ry1 : ry < d) :
    d * P ≤ n * (W + 1) + 2 * d ∧ n * W ≤ d * (P + 1) + 2 * d := by
  have hr : rx * rx + ry * ry ≤ (2 * d) * (2 * d) := by
    have a := sq_mono rx0 (show rx ≤ d by omega)
    have b := sq_mono ry0 (show ry ≤ d by omega)
    have e : (2 * d) * (2 * d) = 4 * (d * d) := by grind
    have c := sq_nonneg d
    rw [e]; generalize d * d = t at *; omega
  constructor
  · refine triangle (px := n * vx) (py := n * vy) (qx := -rx) (qy := -ry) (Int.mul_nonneg hn (by omega)) (by omega) ?_ (by rw [Int.neg_mul_neg, Int.neg_mul_neg]; exact hr) ?_
    · have e1 : (n * vx) * (n * vx) + (n * vy) * (n * vy) = (n * n) * (vx * vx + vy * vy) := by grind
      have e2 : (n * (W + 1)) * (n * (W + 1)) = (n * n) * ((W + 1) * (W + 1)) := by grind
      rw [e1, e2, ← hs]
      exact Int.mul_le_mul_of_nonneg_left (by omega) (sq_nonneg n)
    · have e1 : n * vx + -rx = d * qx := by omega
      have e2 : n * vy + -ry = d * qy := by omega
      rw [e1, e2]
      have e3 : (d * qx) * (d * qx) + (d * qy) * (d * qy) = (d * d) * (qx * qx + qy * qy) := by grind
      have e4 : (d * P) * (d * P) = (d * d) * (P * P) := by grind
      rw [e3, e4]
      exact Int.mul_le_mul_of_nonneg_left p1 (sq_nonneg d)
  · refine triangle (px := d * qx) (py := d * qy) (qx := rx) (qy := ry) (Int.mul_nonneg (by omega) (by omega)) (by omega) ?_ hr ?_
    · have e1 : (d * qx) * (d * qx) + (d * qy) * (d * qy) = (d * d) * (qx * qx + qy * qy) := by grind
      have e2 : (d * (P + 1)) * (d * (P + 1)) = (d * d) * ((P + 1) * (P + 1)) := by grind
      rw [e1, e2]
      exact Int.mul_le_mul_of_nonneg_left (by omega) (sq_nonneg d)
    · rw [ex, ey]
      have e1 : (n * vx) * (n * vx) + (n * vy) * (n * vy) = (n * n) * (vx * vx + vy * vy) := by grind
      have e2 : (n * W) * (n * W) = (n * n) * (W * W) := by grind
      rw [e1, e2, ← hs]
      exact Int.mul_le_mul_of_nonneg_left w1 (sq_nonneg n)
end Plane
end Go.Proofs.Ytokioemmjfjhkaa
