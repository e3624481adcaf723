/- wind.Ground: its contract. -/
import Derived.Test.YtkapllakofndlaaDoorWindG
namespace Go.Proofs.YtkapllakofndlaaDoor
open Go.RowKit
namespace Wind
open Kit Ang Num
theorem w1_ok {l h x y e : Int} (hE : w1E l h x y e = 0) : (0 ≤ l ∧ h ≤ 60001 ∧ l < h) ∧ (-150 ≤ x ∧ x ≤ 150) ∧ (-150 ≤ y ∧ y ≤ 150) ∧ (0 ≤ e ∧ e ≤ 100) := by
  unfold w1E werr outB at hE
  split at hE
  · cases hE
  · rename_i hn
    simp only [decide_eq_true_eq] at hn
    omega
theorem mulW {a s A : Int} (ha : -A ≤ a ∧ a ≤ A) (hs : -16384 ≤ s ∧ s ≤ 16384) (hA : A = 150) : -2457600 ≤ a * s ∧ a * s ≤ 2457600 := by
  subst hA
  have h1 : 0 ≤ (150 - a) * (16384 + s) := Int.mul_nonneg (by omega) (by omega)
  have h2 : 0 ≤ (150 + a) * (16384 - s) := Int.mul_nonneg (by omega) (by omega)
  have h3 : 0 ≤ (150 - a) * (16384 - s) := Int.mul_nonneg (by omega) (by omega)
  have h4 : 0 ≤ (150 + a) * (16384 + s) := Int.mul_nonneg (by omega) (by omega)
  have e1 : (150 - a) * (16384 + s) = 2457600 + 150 * s - 16384 * a - a * s := by grind
  have e2 : (150 + a) * (16384 - s) = 2457600 - 150 * s + 16384 * a - a * s := by grind
  have e3 : (150 - a) * (16384 - s) = 2457600 - 150 * s - 16384 * a + a * s := by grind
  have e4 : (150 + a) * (16384 + s) = 2457600 + 150 * s + 16384 * a + a * s := by grind
  omega
/-- The wind from behind, and how uncertain it is, both times 16384. -/
def gc (hd x y : Int) : Int := x * sn hd + y * sn (hd + 1024)
def gf (hd e : Int) : Int := e * (max (sn hd) (-sn hd) + max (sn (hd + 1024)) (-sn (hd + 1024)))
theorem gf_bd {hd e : Int} (he : 0 ≤ e ∧ e ≤ 100) : 0 ≤ gf hd e ∧ gf hd e ≤ 3276800 := by
  have b1 := sn_bd hd; have b2 := sn_bd (hd + 1024)
  unfold gf
  obtain ⟨z, hz⟩ : ∃ z, z = max (sn hd) (-sn hd) + max (sn (hd + 1024)) (-sn (hd + 1024)) := ⟨_, rfl⟩
  have bz : 0 ≤ z ∧ z ≤ 32768 := by omega
  rw [← hz]
  have h1 : 0 ≤ e * z := Int.mul_nonneg he.1 bz.1
  have h2 := Int.mul_le_mul he.2 bz.2 bz.1 (by omega)
  omega
theorem d16 (a : Int) (ha : -20000000 ≤ a ∧ a ≤ 20000000) : dde a 16384 = 0 ∧ dd a 16384 = a / 16384 ∧ -10000 ≤ du a 16384 ∧ du a 16384 ≤ 10000 := by
  have h0 : (16384 : Int) ≠ 0 := by decide
  have h1 : ¬ (a = -9223372036854775808 ∧ (16384 : Int) = -1) := by omega
  have h2 := dd_ok (a := a) h0 h1
  refine ⟨h2.2, by rw [h2.1, fd_pos (by decide)], ?_⟩
  rw [du_ok h0 h1, fd_pos (by decide)]
  split <;> omega
theorem groundC (sp hd l h x y e : Int) (w : World) (T : Tabs w) (hE : w1E l h x y e = 0) (hs : 1 ≤ sp ∧ sp ≤ 400) :
    Calls Tryd.prog 22 #[.int .i64 sp, .int .i64 hd, band l h x y e] w fun ed w' => ed = .returned (.tuple #[.int .i64 (max 1 (sp + dd (gc hd x y - gf hd e) 16384)), .int .i64 (max 1 (sp + du (gc hd x y + gf hd e) 16384)), .int .i64 0]) ∧ Below w.heap.size w w' := by
  obtain ⟨-, bx, by', be⟩ := w1_ok hE
  have b1 := sn_bd hd; have b2 := sn_bd (hd + 1024)
  have m1 := mulW bx b1 rfl
  have m2 := mulW by' b2 rfl
  have f := gf_bd (hd := hd) be
  have d1 := d16 (gc hd x y - gf hd e) (by unfold gc; omega)
  have d2 := d16 (gc hd x y + gf hd e) (by unfold gc; omega)
  exact ground_w sp hd l h x y e (sn hd) (sn (hd + 1024)) (max (sn hd) (-sn hd)) (max (sn (hd + 1024)) (-sn (hd + 1024))) _ _ (gf hd e) (dd (gc hd x y - gf hd e) 16384) (du (gc hd x y + gf hd e) 16384) w hE hs
    (Lib.hid fun w1 hb => sinA hd (tabs_keep hb T)) (Lib.hid fun w1 hb => cosA hd (tabs_keep hb T)) (Lib.hid fun w1 => size_b (sn hd) (by omega) (by omega) w1) (Lib.hid fun w1 => size_b (sn (hd + 1024)) (by omega) (by omega) w1) (by omega) rfl rfl rfl (by omega) (by omega) (by omega)
    (Lib.hid fun w1 => by have c := divDown (gc hd x y - gf hd e) 16384 w1 (by unfold gc; omega) (by omega); rw [d1.1] at c; exact c) (Lib.hid fun w1 => by have c := divUp (gc hd x y + gf hd e) 16384 w1 (by unfold gc; omega) (by omega); rw [d2.1] at c; exact c)
    (by rw [d1.2.1]; unfold gc; omega) d2.2.2
end Wind
end Go.Proofs.YtkapllakofndlaaDoor
