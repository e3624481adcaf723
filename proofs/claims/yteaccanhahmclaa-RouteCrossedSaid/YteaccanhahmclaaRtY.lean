/- Which volumes a route crosses: in the other direction the same; and each whose area holds a fix. Plain. -/
import Derived.Test.YteaccanhahmclaaRtX
import Derived.Test.YteaccanhahmclaaPolyJ
namespace Go.Proofs.Yteaccanhahmclaa
open Go.RowKit
namespace Route
open Kit Plane Poly Chart Vol Poly.J
section
variable {n : Nat} {X Y : Nat → Int} {ax ay bx by' : Int}
theorem mee_back : mee n X Y bx by' ax ay n = mee n X Y ax ay bx by' n := by
  have key : ∀ m, mee n X Y bx by' ax ay m = mee n X Y ax ay bx by' m := by
    intro m
    induction m with
    | zero => rfl
    | succ m ih =>
      show (mee n X Y bx by' ax ay m || _) = (mee n X Y ax ay bx by' m || _)
      rw [ih, J.common_one (X m) (Y m) (X (nx n m)) (Y (nx n m)) ax ay bx by']
  exact key n
theorem mee_in (ha : place n X Y ax ay < 0) (hb : 0 ≤ place n X Y bx by') : mee n X Y ax ay bx by' n = true := by
  cases h : mee n X Y ax ay bx by' n with
  | true => rfl
  | false => have := place_par (mee_no h); omega
theorem meets_end (h : pck n X Y = 0) (ga : good ax ay) (gb : good bx by') (hp : 0 ≤ place n X Y bx by') : (meets n X Y ax ay bx by').1 = true := by
  rw [meets_ok h ga gb]
  show (decide (0 ≤ place n X Y ax ay) || mee n X Y ax ay bx by' n) = true
  rcases Int.lt_or_le (place n X Y ax ay) 0 with hl | hl
  · rw [mee_in hl hp, Bool.or_true]
  · rw [decide_eq_true hl]; rfl
theorem meets_sym (h : pck n X Y = 0) (ga : good ax ay) (gb : good bx by') : (meets n X Y ax ay bx by').1 = (meets n X Y bx by' ax ay).1 := by
  by_cases h1 : 0 ≤ place n X Y bx by'
  · rw [meets_end h ga gb h1, meets_ok h gb ga]
    show true = (decide (0 ≤ place n X Y bx by') || _)
    rw [decide_eq_true h1]; rfl
  · by_cases h2 : 0 ≤ place n X Y ax ay
    · rw [meets_end h gb ga h2, meets_ok h ga gb]
      show (decide (0 ≤ place n X Y ax ay) || _) = true
      rw [decide_eq_true h2]; rfl
    · rw [meets_ok h ga gb, meets_ok h gb ga]
      show (decide (0 ≤ place n X Y ax ay) || mee n X Y ax ay bx by' n) = (decide (0 ≤ place n X Y bx by') || mee n X Y bx by' ax ay n)
      rw [decide_eq_false h1, decide_eq_false h2, mee_back]
end
section
variable {d : Vd} {X Y : Nat → Int} {n : Nat}
theorem crx_back (h : pck d.n d.X d.Y = 0) (hg : ∀ k, k < n → good (X k) (Y k)) : crx d (fun i => X (n - 1 - i)) (fun i => Y (n - 1 - i)) n = crx d X Y n := by
  rw [Bool.eq_iff_iff, crx_iff, crx_iff]
  constructor
  · rintro ⟨i, h0, h1, h2⟩
    refine ⟨n - i, by omega, by omega, ?_⟩
    try dsimp only at h2
    rw [show n - 1 - (i - 1) = n - i by omega, show n - 1 - i = n - i - 1 by omega] at h2
    rw [meets_sym h (hg _ (by omega)) (hg _ (by omega))]; exact h2
  · rintro ⟨i, h0, h1, h2⟩
    refine ⟨n - i, by omega, by omega, ?_⟩
    try dsimp only
    rw [show n - 1 - (n - i - 1) = i by omega, show n - 1 - (n - i) = i - 1 by omega]
    rw [meets_sym h (hg _ (by omega)) (hg _ (by omega))]; exact h2
theorem crx_end (h : pck d.n d.X d.Y = 0) (hg : ∀ k, k < n → good (X k) (Y k)) {i : Nat} (hi : i < n) (h1 : 1 < n) (hp : 0 ≤ place d.n d.X d.Y (X i) (Y i)) : crx d X Y n = true := by
  rw [crx_iff]
  rcases Nat.eq_zero_or_pos i with h0 | h0
  · subst h0
    refine ⟨1, by omega, h1, ?_⟩
    rw [meets_sym h (hg _ (by omega)) (hg _ (by omega))]
    exact meets_end h (hg _ (by omega)) (hg _ (by omega)) hp
  · exact ⟨i, h0, hi, meets_end h (hg _ (by omega)) (hg _ (by omega)) hp⟩
end
end Route
end Go.Proofs.Yteaccanhahmclaa
