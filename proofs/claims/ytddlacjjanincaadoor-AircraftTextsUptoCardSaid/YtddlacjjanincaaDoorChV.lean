/- Charts in memory: fixes, airways, lists of names; chart.index. -/
import Derived.Test.YtddlacjjanincaaDoorNameW
import Derived.Test.YtddlacjjanincaaDoorToward
import Derived.Test.YtddlacjjanincaaDoorKit2
import Derived.Test.YtddlacjjanincaaDoorShapes
namespace Go.Proofs.YtddlacjjanincaaDoor
open Go.RowKit
namespace Poly
end Poly
namespace Chart
open Kit Plane Poly
/-- One fix. -/
structure E3 (w : World) (b off k : Nat) (s : ByteArray) (x y : Int) : Prop where
  c0 : w.cell? ⟨b, off + k * 3, none⟩ = some (.string s)
  c1 : w.cell? ⟨b, off + k * 3 + 1, none⟩ = some (.int .i64 x)
  c2 : w.cell? ⟨b, off + k * 3 + 2, none⟩ = some (.int .i64 y)
theorem e3_keep {W w1 : World} (hb : Below W.heap.size W w1) {b off k : Nat} {s : ByteArray} {x y : Int} (h : E3 W b off k s x y) : E3 w1 b off k s x y := ⟨keep hb h.c0, keep hb h.c1, keep hb h.c2⟩
/-- A slice of no length. -/
def Nil0 (v : Value) : Prop := v = .slice none 0 0 ∨ ∃ a cap, v = .slice (some a) 0 cap ∧ cap ≤ maxLen
/-- Fixes. -/
def FV (w : World) (v : Value) (n : Nat) (N : Nat → ByteArray) (X Y : Nat → Int) : Prop :=
  (n = 0 ∧ Nil0 v) ∨ (0 < n ∧ ∃ b off cap, v = .slice (some ⟨b, off, none⟩) n cap ∧ n ≤ cap ∧ cap ≤ maxLen ∧ ∀ k, k < n → E3 w b off k (N k) (X k) (Y k))
/-- Names. -/
def SV (w : World) (v : Value) (n : Nat) (S : Nat → ByteArray) : Prop :=
  (n = 0 ∧ Nil0 v) ∨ (0 < n ∧ ∃ b off cap, v = .slice (some ⟨b, off, none⟩) n cap ∧ n ≤ cap ∧ cap ≤ maxLen ∧ ∀ k, k < n → w.cell? ⟨b, off + k, none⟩ = some (.string (S k)))
/-- One airway. -/
def A2 (w : World) (b off k : Nat) (s : ByteArray) (l : Nat) (S : Nat → ByteArray) : Prop :=
  w.cell? ⟨b, off + k * 2, none⟩ = some (.string s) ∧ ∃ v, w.cell? ⟨b, off + k * 2 + 1, none⟩ = some v ∧ SV w v l S
/-- Airways. -/
def AV (w : World) (v : Value) (m : Nat) (M : Nat → ByteArray) (l : Nat → Nat) (S : Nat → Nat → ByteArray) : Prop :=
  (m = 0 ∧ Nil0 v) ∨ (0 < m ∧ ∃ b off cap, v = .slice (some ⟨b, off, none⟩) m cap ∧ m ≤ cap ∧ cap ≤ maxLen ∧ ∀ k, k < m → A2 w b off k (M k) (l k) (S k))
theorem fv_keep {W w1 : World} (hb : Below W.heap.size W w1) {v : Value} {n : Nat} {N : Nat → ByteArray} {X Y : Nat → Int} (h : FV W v n N X Y) : FV w1 v n N X Y := by
  rcases h with h | ⟨h0, b, off, cap, hv, h1, h2, h3⟩
  · exact Or.inl h
  · exact Or.inr ⟨h0, b, off, cap, hv, h1, h2, fun k hk => e3_keep hb (h3 k hk)⟩
theorem sv_keep {W w1 : World} (hb : Below W.heap.size W w1) {v : Value} {n : Nat} {S : Nat → ByteArray} (h : SV W v n S) : SV w1 v n S := by
  rcases h with h | ⟨h0, b, off, cap, hv, h1, h2, h3⟩
  · exact Or.inl h
  · exact Or.inr ⟨h0, b, off, cap, hv, h1, h2, fun k hk => keep hb (h3 k hk)⟩
theorem a2_keep {W w1 : World} (hb : Below W.heap.size W w1) {b off k l : Nat} {s : ByteArray} {S : Nat → ByteArray} (h : A2 W b off k s l S) : A2 w1 b off k s l S := by
  obtain ⟨h1, v, h2, h3⟩ := h
  exact ⟨keep hb h1, v, keep hb h2, sv_keep hb h3⟩
theorem av_keep {W w1 : World} (hb : Below W.heap.size W w1) {v : Value} {m : Nat} {M : Nat → ByteArray} {l : Nat → Nat} {S : Nat → Nat → ByteArray} (h : AV W v m M l S) : AV w1 v m M l S := by
  rcases h with h | ⟨h0, b, off, cap, hv, h1, h2, h3⟩
  · exact Or.inl h
  · exact Or.inr ⟨h0, b, off, cap, hv, h1, h2, fun k hk => a2_keep hb (h3 k hk)⟩
theorem nil0_slice {v : Value} (h : Nil0 v) : ∃ A cap, v = .slice A 0 cap := by
  rcases h with rfl | ⟨a, cap, rfl, -⟩
  · exact ⟨_, _, rfl⟩
  · exact ⟨_, _, rfl⟩
theorem sv_slice {w : World} {v : Value} {n : Nat} {S : Nat → ByteArray} (h : SV w v n S) : ∃ A cap, v = .slice A n cap := by
  rcases h with ⟨rfl, h⟩ | ⟨h0, b, off, cap, rfl, h1, h2, h3⟩
  · exact nil0_slice h
  · exact ⟨_, _, rfl⟩
/-- The first place below n where p holds, or -1. -/
def fnd (p : Nat → Bool) : Nat → Int
  | 0 => -1
  | k + 1 => if 0 ≤ fnd p k then fnd p k else if p k then (k : Int) else -1
theorem fnd_bd (p : Nat → Bool) : ∀ n, -1 ≤ fnd p n ∧ fnd p n < n
  | 0 => by show (-1 : Int) ≤ -1 ∧ (-1 : Int) < 0; omega
  | k + 1 => by
    have h := fnd_bd p k
    show -1 ≤ (if 0 ≤ fnd p k then fnd p k else if p k then (k : Int) else -1) ∧ (if 0 ≤ fnd p k then fnd p k else if p k then (k : Int) else -1) < ((k + 1 : Nat) : Int)
    by_cases h1 : 0 ≤ fnd p k
    · rw [if_pos h1]; omega
    · rw [if_neg h1]; split <;> omega
theorem fnd_no {p : Nat → Bool} : ∀ {n : Nat}, (∀ k, k < n → p k = false) → fnd p n = -1
  | 0, _ => rfl
  | n + 1, h => by
    show (if 0 ≤ fnd p n then fnd p n else if p n then (n : Int) else -1) = -1
    rw [fnd_no fun k hk => h k (by omega), if_neg (by decide), h n (by omega)]
    rfl
theorem fnd_at {p : Nat → Bool} {k : Nat} (hk : ∀ j, j < k → p j = false) (h : p k = true) : ∀ n, k < n → fnd p n = k
  | 0, hn => by omega
  | n + 1, hn => by
    show (if 0 ≤ fnd p n then fnd p n else if p n then (n : Int) else -1) = k
    rcases Nat.lt_or_ge k n with hl | hl
    · rw [fnd_at hk h n hl, if_pos (by omega)]
    · obtain rfl : k = n := by omega
      rw [fnd_no hk, if_neg (by decide), h, if_pos rfl]
theorem fnd_neg {p : Nat → Bool} {n : Nat} (h : fnd p n < 0) : ∀ k, k < n → p k = false := by
  intro k
  induction k using Nat.strongRecOn with
  | ind k ih =>
    intro hk
    cases hp : p k with
    | false => rfl
    | true => have := fnd_at (fun j hj => ih j hj (by omega)) hp n hk; omega
theorem fnd_pos {p : Nat → Bool} {n : Nat} (h : 0 ≤ fnd p n) : ∃ k, k < n ∧ fnd p n = k ∧ p k = true ∧ ∀ j, j < k → p j = false := by
  induction n with
  | zero => exact absurd h (show ¬ (0 : Int) ≤ -1 by decide)
  | succ n ih =>
    have e : fnd p (n + 1) = if 0 ≤ fnd p n then fnd p n else if p n then (n : Int) else -1 := rfl
    by_cases h1 : 0 ≤ fnd p n
    · rw [if_pos h1] at e
      obtain ⟨k, h2, h3, h4, h5⟩ := ih h1
      exact ⟨k, by omega, by rw [e, h3], h4, h5⟩
    · rw [if_neg h1] at e
      cases hp : p n with
      | false => rw [hp, if_neg (by decide)] at e; rw [e] at h; exact absurd h (by decide)
      | true => rw [hp, if_pos rfl] at e; exact ⟨n, by omega, e, hp, fnd_neg (by omega)⟩
/-- Where a name is among the fixes. -/
def fix (N : Nat → ByteArray) (s : ByteArray) (n : Nat) : Int := fnd (fun k => decide (N k = s)) n
theorem b_eq {a b : Bool} (h : a = b) : Ending.returned (.bool a) = Ending.returned (.bool b) := by rw [h]
theorem seq_eq (a b : ByteArray) : (a.toList == b.toList) = decide (a = b) := by
  rw [ByteArray.toList_eq, ByteArray.toList_eq]
  by_cases h : a = b
  · rw [decide_eq_true h, h]; simp
  · rw [decide_eq_false h]
    have h2 : ¬ a.data.toList = b.data.toList := fun e => h (by
      obtain ⟨⟨x⟩⟩ := a
      obtain ⟨⟨y⟩⟩ := b
      have e : x = y := e
      rw [e])
    simpa using h2
end Chart
end Go.Proofs.YtddlacjjanincaaDoor
