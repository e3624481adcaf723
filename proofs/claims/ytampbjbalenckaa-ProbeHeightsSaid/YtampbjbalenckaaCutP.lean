/- Interpolating between two interpolated numbers gives nearly the number interpolated at once. -/
import Derived.Test.YtampbjbalenckaaTubeQ
namespace Go.Proofs.Ytampbjbalenckaa
open Go.RowKit
namespace Tube
open Kit Plane
theorem twice {A D u s v fu fs fv N : Int} (hD : 0 < D) (h1 : u < s) (h2 : s < v) (u1 : D * fu ≤ A * u) (u2 : A * u < D * fu + D) (v1 : D * fv ≤ A * v) (v2 : A * v < D * fv + D) (s1 : D * fs ≤ A * s) (s2 : A * s < D * fs + D)
    (n1 : (v - u) * N ≤ (v - u) * fu + (fv - fu) * (s - u)) (n2 : (v - u) * fu + (fv - fu) * (s - u) < (v - u) * N + (v - u)) : fs - 1 ≤ N ∧ N ≤ fs := by
  obtain ⟨α, hα⟩ : ∃ α, s - u = α := ⟨_, rfl⟩
  obtain ⟨β, hβ⟩ : ∃ β, v - s = β := ⟨_, rfl⟩
  have hs : s = u + α := by omega
  have hv : v = u + α + β := by omega
  have ha : 0 < α := by omega
  have hb : 0 < β := by omega
  subst hs hv
  have e1 : u + α + β - u = α + β := by omega
  have e2 : u + α - u = α := by omega
  rw [e1, e2] at n1 n2
  -- β fu + α fv
  have e3 : (α + β) * fu + (fv - fu) * α = β * fu + α * fv := by
    rw [Int.add_mul, Int.sub_mul, Int.mul_comm fv α, Int.mul_comm fu α]; omega
  rw [e3] at n1 n2
  have p1 := Int.mul_le_mul_of_nonneg_left u1 (Int.le_of_lt hb)
  have p2 := Int.mul_le_mul_of_nonneg_left v1 (Int.le_of_lt ha)
  have p3 := Int.mul_lt_mul_of_pos_left u2 hb
  have p4 := Int.mul_lt_mul_of_pos_left v2 ha
  have q1 := Int.mul_le_mul_of_nonneg_left n1 (Int.le_of_lt hD)
  have q2 := Int.mul_lt_mul_of_pos_left n2 hD
  have he : 0 < α + β := by omega
  have r1 := Int.mul_le_mul_of_nonneg_left s1 (Int.le_of_lt he)
  have r2 := Int.mul_lt_mul_of_pos_left s2 he
  have hDe : 0 < D * (α + β) := Int.mul_pos hD he
  -- all products by names
  have x1 : β * (D * fu) = D * (β * fu) := by rw [← Int.mul_assoc, Int.mul_comm β D, Int.mul_assoc]
  have x2 : α * (D * fv) = D * (α * fv) := by rw [← Int.mul_assoc, Int.mul_comm α D, Int.mul_assoc]
  have x3 : D * (β * fu + α * fv) = D * (β * fu) + D * (α * fv) := Int.mul_add ..
  have x4 : β * (A * u) + α * (A * (u + α + β)) = (α + β) * (A * (u + α)) := by
    have : ∀ a b c d : Int, b * (c * d) + a * (c * (d + a + b)) = (a + b) * (c * (d + a)) := fun a b c d => by
      simp only [Int.mul_add, Int.mul_left_comm, Int.mul_comm]
      omega
    exact this α β A u
  have x5 : D * ((α + β) * N) = D * (α + β) * N := by rw [Int.mul_assoc]
  have x6 : (α + β) * (D * fs) = D * (α + β) * fs := by rw [← Int.mul_assoc, Int.mul_comm (α + β) D]
  have x7 : D * ((α + β) * N + (α + β)) = D * (α + β) * N + D * (α + β) := by rw [Int.mul_add, x5]
  have x8 : (α + β) * (D * fs + D) = D * (α + β) * fs + D * (α + β) := by rw [Int.mul_add, x6, Int.mul_comm (α + β) D]
  have x9 : β * (D * fu + D) = D * (β * fu) + β * D := by rw [Int.mul_add, x1]
  have x10 : α * (D * fv + D) = D * (α * fv) + α * D := by rw [Int.mul_add, x2]
  have x11 : β * D + α * D = D * (α + β) := by rw [Int.mul_add, Int.mul_comm β, Int.mul_comm α]; omega
  rw [x1] at p1
  rw [x2] at p2
  rw [x9] at p3
  rw [x10] at p4
  rw [x3, x5] at q1
  rw [x3, x7] at q2
  rw [x6] at r1
  rw [x8] at r2
  have up : D * (α + β) * N < D * (α + β) * (fs + 1) := by
    have : D * (α + β) * (fs + 1) = D * (α + β) * fs + D * (α + β) := by rw [Int.mul_add, Int.mul_one]
    omega
  have lo : D * (α + β) * (fs - 2) < D * (α + β) * N := by
    have : D * (α + β) * (fs - 2) = D * (α + β) * fs - D * (α + β) * 2 := Int.mul_sub ..
    omega
  have up' := Int.lt_of_mul_lt_mul_left up (Int.le_of_lt hDe)
  have lo' := Int.lt_of_mul_lt_mul_left lo (Int.le_of_lt hDe)
  omega
theorem fl (x : Int) {d : Int} (hd : 0 < d) : d * (x / d) ≤ x ∧ x < d * (x / d) + d := by
  have e1 := Int.mul_ediv_add_emod x d
  have e2 := Int.emod_nonneg x (show d ≠ 0 by omega)
  have e3 := Int.emod_lt_of_pos x hd
  omega
/-- Rounded down twice. -/
theorem down2 {a b D u s v : Int} (hD : 0 < D) (h1 : u < s) (h2 : s < v) :
    (a + (b - a) * s / D) - 1 ≤ (a + (b - a) * u / D) + ((a + (b - a) * v / D) - (a + (b - a) * u / D)) * (s - u) / (v - u) ∧
    (a + (b - a) * u / D) + ((a + (b - a) * v / D) - (a + (b - a) * u / D)) * (s - u) / (v - u) ≤ a + (b - a) * s / D := by
  obtain ⟨fu, hfu⟩ : ∃ fu, (b - a) * u / D = fu := ⟨_, rfl⟩
  obtain ⟨fs, hfs⟩ : ∃ fs, (b - a) * s / D = fs := ⟨_, rfl⟩
  obtain ⟨fv, hfv⟩ : ∃ fv, (b - a) * v / D = fv := ⟨_, rfl⟩
  have f1 := fl ((b - a) * u) hD
  have f2 := fl ((b - a) * s) hD
  have f3 := fl ((b - a) * v) hD
  rw [hfu] at f1 ⊢
  rw [hfs] at f2 ⊢
  rw [hfv] at f3 ⊢
  rw [show a + fv - (a + fu) = fv - fu from by omega]
  obtain ⟨q, hq⟩ : ∃ q, (fv - fu) * (s - u) / (v - u) = q := ⟨_, rfl⟩
  have f4 := fl ((fv - fu) * (s - u)) (show 0 < v - u by omega)
  rw [hq] at f4 ⊢
  have e : (v - u) * (fu + q) = (v - u) * fu + (v - u) * q := Int.mul_add ..
  have := twice (N := fu + q) hD h1 h2 f1.1 f1.2 f3.1 f3.2 f2.1 f2.2 (by rw [e]; omega) (by rw [e]; omega)
  omega
/-- Rounded up twice. -/
theorem up2 {a b D u s v : Int} (hD : 0 < D) (h1 : u < s) (h2 : s < v) :
    a + up ((b - a) * s) D ≤ (a + up ((b - a) * u) D) + up (((a + up ((b - a) * v) D) - (a + up ((b - a) * u) D)) * (s - u)) (v - u) ∧
    (a + up ((b - a) * u) D) + up (((a + up ((b - a) * v) D) - (a + up ((b - a) * u) D)) * (s - u)) (v - u) ≤ a + up ((b - a) * s) D + 1 := by
  have h := down2 (a := -a) (b := -b) (D := D) hD h1 h2
  have e : ∀ x : Int, (-b - -a) * x = -((b - a) * x) := fun x => by rw [show -b - -a = -(b - a) from by omega, Int.neg_mul]
  rw [e, e, e] at h
  unfold up
  obtain ⟨fu, hfu⟩ : ∃ fu, -((b - a) * u) / D = fu := ⟨_, rfl⟩
  obtain ⟨fs, hfs⟩ : ∃ fs, -((b - a) * s) / D = fs := ⟨_, rfl⟩
  obtain ⟨fv, hfv⟩ : ∃ fv, -((b - a) * v) / D = fv := ⟨_, rfl⟩
  rw [hfu, hfs, hfv] at h ⊢
  have e2 : -((a + -fv - (a + -fu)) * (s - u)) = (-a + fv - (-a + fu)) * (s - u) := by
    rw [← Int.neg_mul]; congr 1; omega
  rw [e2]
  omega
end Tube
end Go.Proofs.Ytampbjbalenckaa
