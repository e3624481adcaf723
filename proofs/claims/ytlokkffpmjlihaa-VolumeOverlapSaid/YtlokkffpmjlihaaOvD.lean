/- polygon.enters and polygon.Overlap: their contracts; what the laws need of them. -/
import Derived.Test.YtlokkffpmjlihaaOvE
import Derived.Test.YtlokkffpmjlihaaOvC
namespace Go.Proofs.Ytlokkffpmjlihaa
open Go.RowKit
namespace Over
open Kit Plane Poly Vol
/-- A doubled coordinate. -/
def d2 (X : Nat → Int) : Nat → Int := fun k => 2 * X k
theorem rows_all {n : Nat} {X Y : Nat → Int} : ∀ {m : Nat}, rows n X Y m = true → ∀ i, i < m → row n X Y i = true
  | 0, _, i, h => absurd h (Nat.not_lt_zero i)
  | m + 1, h, i, hi => by
    have h' : (rows n X Y m && row n X Y m) = true := h
    rw [Bool.and_eq_true] at h'
    rcases Nat.lt_or_ge i m with hl | hl
    · exact rows_all h'.1 i hl
    · rw [show i = m from by omega]; exact h'.2
/-- No edge of a valid polygon is a point. -/
theorem pck_edge {n : Nat} {X Y : Nat → Int} (h : pck n X Y = 0) : ∀ i, i < n → ¬ (X i = X (nx n i) ∧ Y i = Y (nx n i)) := by
  intro i hi he
  obtain ⟨-, -, -, hr, -⟩ := pck_ok h
  have h1 := rows_all hr i hi
  unfold row at h1
  rw [Bool.and_eq_true, Bool.not_eq_true', decide_eq_false_iff_not] at h1
  exact h1.1 (sgn_eq0.2 (by rw [← he.1, ← he.2]; unfold crs; simp))
theorem pck_p2 {n : Nat} {X Y : Nat → Int} (h : pck n X Y = 0) : ∀ k, k < n → P2M (2 * X k) (2 * Y k) := by
  intro k hk
  obtain ⟨-, -, hg, -, -⟩ := pck_ok h
  have := hg k hk
  unfold good at this
  unfold P2M
  omega
theorem enC {n m : Nat} {X Y U V : Nat → Int} (hp : pck n X Y = 0) (hq : pck m U V = 0) {B : Bool} (hB : B = true ↔ EntP n (fun k => 2 * X k) (fun k => 2 * Y k) m (fun k => 2 * U k) (fun k => 2 * V k)) (w1 : World) (a b : Value)
    (ha : QV w1 a n (fun k => 2 * X k) (fun k => 2 * Y k)) (hb : QV w1 b m (fun k => 2 * U k) (fun k => 2 * V k)) :
    Calls Try.prog 71 #[a, b] w1 fun e w' => e = .returned (.bool B) ∧ Below w1.heap.size w1 w' := by
  obtain ⟨n3, n16, -, -, -⟩ := pck_ok hp
  obtain ⟨m3, m16, -, -, -⟩ := pck_ok hq
  have gp := pck_p2 hp; have gq := pck_p2 hq
  have dp := pck_edge hp
  have hN := fun k (hk : k < n) => nextC ha hk
  have hM := fun k (hk : k < m) => nextC hb hk
  have PL := fun mx my w2 (hm : P2M mx my) (hbw : Below w1.heap.size w1 w2) => placeC (qv_keep hbw hb) (by omega) (fun k hk => by have := gq k hk; unfold P2M at this; omega) (qx := mx) (qy := my) (by unfold P2M at hm; omega)
  rcases ha with ⟨h, -⟩ | ⟨n0, b1, off, c, e, hc1, hc2, HP⟩
  · omega
  · subst e
    rcases hb with ⟨h, -⟩ | ⟨m0, b2, off', d, e, hd1, hd2, HQ⟩
    · omega
    · subst e
      exact enters_w n c b1 off m d b2 off' _ _ _ _ B w1 n0 m0 n16 m16 hc1 hd1 (Nat.le_trans hc2 (by decide)) (Nat.le_trans hd2 (by decide)) (Lib.hid HP) (Lib.hid HQ) (Lib.hid hN) (Lib.hid hM) (Lib.hid gp) (Lib.hid gq)
        (Lib.hid fun k _ => by omega) (Lib.hid fun k _ => by omega) (Lib.hid fun i hi h => dp i hi (by omega)) (Lib.hid PL) (Lib.hid hB)
/-- The question that enters asks, for two polygons. -/
def EntD (n : Nat) (X Y : Nat → Int) (m : Nat) (U V : Nat → Int) : Prop := EntP n (fun k => 2 * X k) (fun k => 2 * Y k) m (fun k => 2 * U k) (fun k => 2 * V k)
theorem ov_full {u v : Value} {n m : Nat} {X Y U V : Nat → Int} {w : World} (hu : QV w u n X Y) (hv : QV w v m U V) {B1 B2 : Bool} (h1 : B1 = true ↔ EntD n X Y m U V) (h2 : B2 = true ↔ EntD m U V n X Y) :
    Calls Try.prog 31 #[u, v] w fun e w' => e = .returned (.tuple #[.bool (ovR n X Y m U V B1 B2).1, .int .i64 (ovR n X Y m U V B1 B2).2]) ∧ Below w.heap.size w w' :=
  overC hu hv B1 B2 (fun hp hq w1 a b ha hb => enC hp hq h1 w1 a b ha hb) (fun hp hq w1 a b ha hb => enC hq hp h2 w1 b a hb ha)
theorem bool_of (P : Prop) : ∃ B : Bool, B = true ↔ P := by
  by_cases h : P
  · exact ⟨true, fun _ => h, fun _ => rfl⟩
  · exact ⟨false, fun e => (by cases e), fun e => absurd e h⟩
theorem cross_sym (ax ay bx by' cx cy dx dy : Int) : crossB cx cy dx dy ax ay bx by' = crossB ax ay bx by' cx cy dx dy := by
  unfold crossB; rw [Bool.and_comm]
theorem xa_sym {n : Nat} {X Y : Nat → Int} {m : Nat} {U V : Nat → Int} : xa m U V n X Y m = xa n X Y m U V n := by
  rw [Bool.eq_iff_iff, xa_iff, xa_iff]
  constructor
  · rintro ⟨i, hi, h⟩
    obtain ⟨k, hk, h⟩ := xr_iff.1 h
    exact ⟨k, hk, xr_iff.2 ⟨i, hi, by rw [cross_sym]; exact h⟩⟩
  · rintro ⟨i, hi, h⟩
    obtain ⟨k, hk, h⟩ := xr_iff.1 h
    exact ⟨k, hk, xr_iff.2 ⟨i, hi, by rw [cross_sym]; exact h⟩⟩
theorem ov_sym {n : Nat} {X Y : Nat → Int} {m : Nat} {U V : Nat → Int} {B1 B2 : Bool} (hp : pck n X Y = 0) (hq : pck m U V = 0) : ovR m U V n X Y B2 B1 = ovR n X Y m U V B1 B2 := by
  unfold ovR
  rw [if_neg (fun h => h hq), if_neg (fun h => h hp), if_neg (fun h => h hp), if_neg (fun h => h hq), xa_sym, Bool.or_comm B2 B1]
theorem cut_even {n : Nat} {X Y : Nat → Int} {m : Nat} {U V : Nat → Int} {i : Nat} {cx cy : Int} (h : Cut n (fun k => 2 * X k) (fun k => 2 * Y k) m (fun k => 2 * U k) (fun k => 2 * V k) i cx cy) : (2 * X i + cx) % 2 = 0 ∧ (2 * Y i + cy) % 2 = 0 := by
  rcases h with ⟨rfl, rfl⟩ | ⟨rfl, rfl⟩ | ⟨k, -, rfl, rfl, -⟩ <;> (dsimp only; omega)
theorem ov_inside {n : Nat} {X Y : Nat → Int} {m : Nat} {U V : Nat → Int} {B1 B2 : Bool} (h1 : B1 = true ↔ EntD n X Y m U V) (hp : pck n X Y = 0) (hq : pck m U V = 0) {i : Nat} (hi : i < n) (hin : place m U V (X i) (Y i) = 1) : (ovR n X Y m U V B1 B2).1 = true := by
  unfold ovR
  rw [if_neg (fun h => h hp), if_neg (fun h => h hq)]
  show (xa n X Y m U V n || (B1 || B2)) = true
  obtain ⟨m3, -, -, -, -⟩ := pck_ok hq
  cases hx : xa n X Y m U V n with
  | true => rfl
  | false =>
    have hb : B1 = true := h1.2 (by
      unfold EntD
      refine ent_inside hi (by omega) (fun h => pck_edge hp i hi (by omega)) (fun k hk h => pck_edge hq k hk (by omega)) (fun cx cy h => cut_even h) (by rw [place_dbl]; exact hin) (fun k hk => ?_)
      rw [cross_dbl, cross_sym]
      cases hc : crossB (X i) (Y i) (X (nx n i)) (Y (nx n i)) (U k) (V k) (U (nx m k)) (V (nx m k)) with
      | false => rfl
      | true => rw [xa_iff.2 ⟨i, hi, xr_iff.2 ⟨k, hk, hc⟩⟩] at hx; cases hx)
    rw [hb]; rfl
theorem ov_self {n : Nat} {X Y : Nat → Int} {B : Bool} (h : B = true ↔ EntD n X Y n X Y) (hp : pck n X Y = 0) : ovR n X Y n X Y B B = (true, 0) := by
  obtain ⟨n3, -, -, -, -⟩ := pck_ok hp
  have hb : B = true := h.2 (by
    unfold EntD
    exact ent_self (by omega) (fun h => pck_edge hp 0 (by omega) (by omega)) (fun cx cy h => cut_even h))
  unfold ovR
  rw [if_neg (fun h => h hp), if_neg (fun h => h hp), hb]
  simp
theorem ov_err {n : Nat} {X Y : Nat → Int} {m : Nat} {U V : Nat → Int} {B1 B2 : Bool} : ((ovR n X Y m U V B1 B2).2 = 0 ∧ pck n X Y = 0 ∧ pck m U V = 0) ∨ ((ovR n X Y m U V B1 B2).2 ≠ 0 ∧ (ovR n X Y m U V B1 B2).1 = false) := by
  unfold ovR
  by_cases h1 : pck n X Y ≠ 0
  · rw [if_pos h1]; exact Or.inr ⟨h1, rfl⟩
  · rw [if_neg h1]
    by_cases h2 : pck m U V ≠ 0
    · rw [if_pos h2]; exact Or.inr ⟨h2, rfl⟩
    · rw [if_neg h2]; exact Or.inl ⟨rfl, Classical.not_not.1 h1, Classical.not_not.1 h2⟩
end Over
end Go.Proofs.Ytlokkffpmjlihaa
