/- tube.Inside: what it returns; long: that it returns. -/
import Derived.Test.YteaccanhahmclaaTubeQ
namespace Go.Proofs.Yteaccanhahmclaa
open Go.RowKit
namespace Tube
open Kit Plane
/-- The last node that is not later than t. -/
def segI (T : Nat → Int) : Nat → Int → Nat
  | 0, _ => 0
  | n + 1, t => if T n ≤ t then n else segI T n t
theorem segI_spec {T : Nat → Int} {t : Int} : ∀ {n : Nat}, 0 < n → T 0 ≤ t → tseg T n t (segI T n t) := by
  intro n
  induction n with
  | zero => intro h; exact absurd h (by omega)
  | succ n ih =>
    intro _ h0
    show tseg T (n + 1) t (if T n ≤ t then n else segI T n t)
    by_cases hl : T n ≤ t
    · rw [if_pos hl]; exact ⟨by omega, hl, fun h => by omega⟩
    · rw [if_neg hl]
      rcases Nat.eq_zero_or_pos n with hn | hn
      · subst hn; omega
      · obtain ⟨h1, h2, h3⟩ := ih hn h0
        refine ⟨by omega, h2, fun h => ?_⟩
        rcases Nat.lt_or_ge (segI T n t + 1) n with h4 | h4
        · exact h3 h4
        · rw [show segI T n t + 1 = n from by omega]; omega
/-- Two slices of slices, one behind the other. -/
abbrev Q2 (w : World) (b : Nat) (u v : Value) : Prop := w.cell? ⟨b, 0, none⟩ = some u ∧ w.cell? ⟨b, 1, none⟩ = some v
theorem q2_keep {W w1 : World} (hb : Below W.heap.size W w1) {b : Nat} {u v : Value} (h : Q2 W b u v) : Q2 w1 b u v := ⟨keep hb h.1, keep hb h.2⟩
theorem q2_new (w : World) (t : TypeId) (u v : Value) : Q2 (w.alloc (.cells #[u, v] t)) w.heap.size u v := ⟨by simp, by simp⟩
/-- One node lies in another one. -/
def inN (x y h r d x' y' h' r' d' : Int) : Bool := decide (dup (sqr x y x' y') + r ≤ r') && decide (max (h - h') (h' - h) + d ≤ d')
/-- At a time one tube lies in the other. -/
def inT (T X Y H R B : Nat → Int) (n : Nat) (T' X' Y' H' R' B' : Nat → Int) (n' : Nat) (t : Int) : Bool :=
  inN (tx T X (segI T n t) t) (tx T Y (segI T n t) t) (th T H (segI T n t) t) (tu T R (segI T n t) t) (tu T B (segI T n t) t)
    (tx T' X' (segI T' n' t) t) (tx T' Y' (segI T' n' t) t) (th T' H' (segI T' n' t) t) (tu T' R' (segI T' n' t) t) (tu T' B' (segI T' n' t) t)
/-- No answer, or one that is right at all times. -/
def InPost (z z' : Int) (C : Int → Bool) (e : Ending) : Prop := ∃ c : Bool, e = .returned (.tuple #[.bool c, .int .i64 0]) ∧ (c = true ↔ ∀ t, z ≤ t → t ≤ z' → C t = true)
theorem in_no {z z' : Int} {C : Int → Bool} {t : Int} (h1 : z ≤ t) (h2 : t ≤ z') (h : C t = false) : InPost z z' C (.returned (.tuple #[.bool false, .int .i64 0])) :=
  ⟨false, rfl, fun e => (by cases e), fun e => by rw [e t h1 h2] at h; cases h⟩
theorem in_yes {z z' : Int} {C : Int → Bool} (h : ∀ t, z ≤ t → t ≤ z' → C t = true) : InPost z z' C (.returned (.tuple #[.bool true, .int .i64 0])) := ⟨true, rfl, fun _ => h, fun _ => rfl⟩
/-- What a call of at yields at a time. -/
abbrev NdC (v : Value) (w : World) (a z : Int) (x y h r d : Int → Int) : Prop := ∀ w1, Below w.heap.size w w1 → ∀ t, a ≤ t → t ≤ z → Calls Try.prog 84 #[v, .int .i64 t] w1 fun e w' => e = .returned (.agg #[.int .i64 t, .int .i64 (x t), .int .i64 (y t), .int .i64 (h t), .int .i64 (r t), .int .i64 (d t)]) ∧ Below w1.heap.size w1 w'
/-- The numbers of a node that is interpolated. -/
abbrev NdB (a z : Int) (x y h r d : Int → Int) : Prop := ∀ t, a ≤ t → t ≤ z → (-1000000 ≤ x t ∧ x t ≤ 1000000 ∧ -1000000 ≤ y t ∧ y t ≤ 1000000) ∧ (0 ≤ h t ∧ h t ≤ 60000) ∧ (0 ≤ r t ∧ r t ≤ 1000000) ∧ (0 ≤ d t ∧ d t ≤ 60000)
theorem ge1 {E : Int} (h : E ≠ 0) : (E == 0) = false ∧ (E != 0) = true := by constructor <;> simp [h]
abbrev EnC (v : Value) (w : World) (a z : Int) : Prop := ∀ w1, Below w.heap.size w w1 → Calls Try.prog 83 #[v] w1 fun e w' => e = .returned (.tuple #[.int .i64 a, .int .i64 z]) ∧ Below w1.heap.size w1 w'
end Tube
end Go.Proofs.Yteaccanhahmclaa
