/- The plain law of the winds: what Ground and Leg answer, as numbers. -/
import Derived.Test.YtkapllakofndlaaDoorWindG2
import Derived.Test.YtkapllakofndlaaDoorPlane
namespace Go.Proofs.YtkapllakofndlaaDoor
open Go.RowKit
namespace Wind
open Kit Ang Num Plane
theorem d16e (a : Int) (ha : -20000000 ≤ a ∧ a ≤ 20000000) : dd a 16384 = a / 16384 ∧ du a 16384 = -((-a) / 16384) := by
  have h0 : (16384 : Int) ≠ 0 := by decide
  have h1 : ¬ (a = -9223372036854775808 ∧ (16384 : Int) = -1) := by omega
  refine ⟨(d16 a ha).2.1, ?_⟩
  rw [du_ok h0 h1, fd_pos (by decide)]
  have h : a.tmod 16384 = 0 ↔ a % 16384 = 0 := by
    rw [← Int.dvd_iff_tmod_eq_zero, ← Int.dvd_iff_emod_eq_zero]
  split <;> rename_i hh <;> rw [h] at hh <;> omega
/-- The bounds of the speed over ground. -/
def glo (sp hd x y e : Int) : Int := max 1 (sp + dd (gc hd x y - gf hd e) 16384)
def ghi (sp hd x y e : Int) : Int := max 1 (sp + du (gc hd x y + gf hd e) 16384)
theorem gc_bd {hd x y : Int} (hx : -150 ≤ x ∧ x ≤ 150) (hy : -150 ≤ y ∧ y ≤ 150) : -4915200 ≤ gc hd x y ∧ gc hd x y ≤ 4915200 := by
  have m1 := mulW hx (sn_bd hd) rfl
  have m2 := mulW hy (sn_bd (hd + 1024)) rfl
  unfold gc; omega
theorem gf_zero (hd : Int) : gf hd 0 = 0 := by unfold gf; rw [Int.zero_mul]
theorem gc_zero (hd : Int) : gc hd 0 0 = 0 := by unfold gc; rw [Int.zero_mul, Int.zero_mul]; rfl
theorem gc_half (hd x y : Int) : gc (wrap64 (hd + 2048)) x y = - gc hd x y := by
  have e1 : sn (wrap64 (hd + 2048)) = - sn hd := by rw [← sn_half hd]; exact sn_mod (wrap_mod _)
  have e2 : sn (wrap64 (hd + 2048) + 1024) = - sn (hd + 1024) := by
    rw [← sn_half (hd + 1024)]; exact sn_mod (by have := wrap_mod (hd + 2048); omega)
  unfold gc; rw [e1, e2]; grind
theorem ground_bds {sp hd x y e : Int} (hs : 1 ≤ sp ∧ sp ≤ 400) (hx : -150 ≤ x ∧ x ≤ 150) (hy : -150 ≤ y ∧ y ≤ 150) (he : 0 ≤ e ∧ e ≤ 100) :
    1 ≤ glo sp hd x y e ∧ glo sp hd x y e ≤ ghi sp hd x y e ∧ ghi sp hd x y e ≤ sp + 500 := by
  have b1 := gc_bd (hd := hd) hx hy
  have b2 := gf_bd (hd := hd) he
  unfold glo ghi
  rw [(d16e _ (by omega)).1, (d16e _ (by omega)).2]
  omega
theorem bounds_law {sp hd x y e : Int} (hs : 1 ≤ sp ∧ sp ≤ 400) (hx : -150 ≤ x ∧ x ≤ 150) (hy : -150 ≤ y ∧ y ≤ 150) (he : 0 ≤ e ∧ e ≤ 100) :
    glo sp hd x y e ≤ glo sp hd x y 0 ∧ ghi sp hd x y 0 ≤ ghi sp hd x y e ∧ glo sp hd x y e ≤ ghi sp hd x y e ∧ ghi sp hd x y 0 - glo sp hd x y 0 ≤ 1 ∧
    (glo sp hd x y 0 = 1 ∨ glo sp (wrap64 (hd + 2048)) x y 0 = 1 ∨ glo sp hd x y 0 + ghi sp (wrap64 (hd + 2048)) x y 0 = 2 * sp ∧ ghi sp hd x y 0 + glo sp (wrap64 (hd + 2048)) x y 0 = 2 * sp) := by
  have b1 := gc_bd (hd := hd) hx hy
  have b2 := gf_bd (hd := hd) he
  unfold glo ghi
  rw [gc_half, gf_zero, gf_zero, (d16e (gc hd x y - gf hd e) (by omega)).1, (d16e (gc hd x y + gf hd e) (by omega)).2, (d16e (gc hd x y - 0) (by omega)).1, (d16e (gc hd x y + 0) (by omega)).2, (d16e (- gc hd x y - 0) (by omega)).1, (d16e (- gc hd x y + 0) (by omega)).2]
  omega
/-- The bounds of a leg's duration: n / hi and f / lo, rounded away. -/
theorem leg_law {n f lo hi sp : Int} (hn : 0 ≤ n) (hnf : n ≤ f) (h1 : 1 ≤ lo) (h2 : lo ≤ hi) (h3 : hi ≤ sp + 500) (hs : 1 ≤ sp) :
    n / hi ≤ du f lo ∧ n - sp - 500 ≤ n / hi * (sp + 500) ∧ f / (sp + 500) ≤ du f lo ∧ du f lo = (f + lo - 1) / lo := by
  have hdu : du f lo = (f + lo - 1) / lo := by
    rw [du_ok (by omega) (by omega), fd_pos (by omega), Int.tmod_eq_emod_of_nonneg (by omega)]
    have e1 := Int.mul_ediv_add_emod f lo
    have e2 := Int.emod_nonneg f (show lo ≠ 0 by omega)
    have e3 := Int.emod_lt_of_pos f (show 0 < lo by omega)
    split
    · rename_i h0
      refine (ediv_unique (by omega) ?_ ?_).symm <;> omega
    · rename_i h0
      have e4 : lo * (f / lo + 1) = lo * (f / lo) + lo := by grind
      refine (ediv_unique (by omega) ?_ ?_).symm <;> omega
  have a1 := Int.mul_ediv_add_emod n hi
  have a2 := Int.emod_nonneg n (show hi ≠ 0 by omega)
  have a3 := Int.emod_lt_of_pos n (show 0 < hi by omega)
  have a0 : 0 ≤ n / hi := Int.ediv_nonneg hn (by omega)
  have c0 : 0 ≤ f / (sp + 500) := Int.ediv_nonneg (by omega) (by omega)
  have c1 := Int.mul_ediv_add_emod f (sp + 500)
  have c2 := Int.emod_nonneg f (show sp + 500 ≠ 0 by omega)
  refine ⟨?_, ?_, ?_, hdu⟩
  · rw [hdu]
    rw [Int.le_ediv_iff_mul_le (by omega)]
    have := Int.mul_le_mul_of_nonneg_left h2 a0
    have e : n / hi * hi = hi * (n / hi) := Int.mul_comm _ _
    omega
  · have := Int.mul_le_mul_of_nonneg_left h3 a0
    have e : n / hi * hi = hi * (n / hi) := Int.mul_comm _ _
    omega
  · rw [hdu]
    rw [Int.le_ediv_iff_mul_le (by omega)]
    have := Int.mul_le_mul_of_nonneg_left (show lo ≤ sp + 500 by omega) c0
    have e : f / (sp + 500) * (sp + 500) = (sp + 500) * (f / (sp + 500)) := Int.mul_comm _ _
    omega
theorem calm_law {sp hd : Int} (hs : 1 ≤ sp ∧ sp ≤ 400) : glo sp hd 0 0 0 = sp ∧ ghi sp hd 0 0 0 = sp := by
  unfold glo ghi
  rw [gc_zero, gf_zero, (d16e (0 - 0) (by omega)).1, (d16e (0 + 0) (by omega)).2]
  omega
end Wind
end Go.Proofs.YtkapllakofndlaaDoor
