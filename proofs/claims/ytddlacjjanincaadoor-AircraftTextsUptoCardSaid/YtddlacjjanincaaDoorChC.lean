/- chart.checkAirway and chart.Check: what they return. -/
import Derived.Test.YtddlacjjanincaaDoorChA
namespace Go.Proofs.YtddlacjjanincaaDoor
open Go.RowKit
namespace Chart
open Kit Plane Poly
/-- The first error of a list. -/
def ferr (e : Nat → Int) : Nat → Int
  | 0 => 0
  | k + 1 => if ferr e k ≠ 0 then ferr e k else e k
theorem ferr_zero {e : Nat → Int} : ∀ {n : Nat}, (∀ j, j < n → e j = 0) → ferr e n = 0
  | 0, _ => rfl
  | n + 1, h => by
    show (if ferr e n ≠ 0 then ferr e n else e n) = 0
    rw [ferr_zero fun j hj => h j (by omega), if_neg (by decide)]
    exact h n (by omega)
theorem ferr_at {e : Nat → Int} {k : Nat} (h : ∀ j, j < k → e j = 0) (hk : e k ≠ 0) : ∀ {n : Nat}, k < n → ferr e n = e k
  | 0, hn => by omega
  | n + 1, hn => by
    show (if ferr e n ≠ 0 then ferr e n else e n) = e k
    rcases Nat.lt_or_ge k n with hl | hl
    · rw [ferr_at h hk hl, if_pos hk]
    · obtain rfl : k = n := by omega
      rw [ferr_zero h, if_neg (by decide)]
theorem ferr_inv {e : Nat → Int} : ∀ {n : Nat}, ferr e n = 0 → ∀ j, j < n → e j = 0
  | 0, _, j, hj => by omega
  | n + 1, h, j, hj => by
    have h : (if ferr e n ≠ 0 then ferr e n else e n) = 0 := h
    by_cases h0 : ferr e n = 0
    · rw [if_neg (fun g => g h0)] at h
      rcases Nat.lt_or_ge j n with hl | hl
      · exact ferr_inv h0 j hl
      · rw [show j = n from by omega]; exact h
    · rw [if_pos h0] at h; exact absurd h h0
/-- The error at one name of an airway. -/
def nerr (n : Nat) (N : Nat → ByteArray) (X Y : Nat → Int) (S : Nat → ByteArray) (j : Nat) : Int :=
  if fix N (S j) n < 0 then 6 else if 0 ≤ fix S (S j) j then 7 else if 0 < j ∧ X (fix N (S j) n).toNat = X (fix N (S (j - 1)) n).toNat ∧ Y (fix N (S j) n).toNat = Y (fix N (S (j - 1)) n).toNat then 10 else 0
theorem nerr_next {n : Nat} {N : Nat → ByteArray} {X Y : Nat → Int} {T : Nat → ByteArray} {k : Nat} (h : ∀ j, j < k → nerr n N X Y T j = 0) (hk : nerr n N X Y T k = 0) : ∀ j, j < k + 1 → nerr n N X Y T j = 0 := fun j hj => by
  rcases Nat.lt_or_ge j k with hl | hl
  · exact h j hl
  · rw [show j = k from by omega]; exact hk
/-- checkAirway's error. -/
def aerr (n : Nat) (N : Nat → ByteArray) (X Y : Nat → Int) (M : Nat → ByteArray) (l : Nat → Nat) (S : Nat → Nat → ByteArray) (i : Nat) : Int :=
  if Name.nameB (M i) = false then 5 else if 0 ≤ fix N (M i) n ∨ 0 ≤ fix M (M i) i then 7 else if l i < 2 ∨ 24 < l i then 3 else ferr (nerr n N X Y (S i)) (l i)
/-- Two cells. -/
abbrev P2V (w : World) (b : Nat) (u v : Value) : Prop := w.cell? ⟨b, 0, none⟩ = some u ∧ w.cell? ⟨b, 1, none⟩ = some v
theorem p2v_keep {W w1 : World} (hb : Below W.heap.size W w1) {b : Nat} {u v : Value} (h : P2V W b u v) : P2V w1 b u v := ⟨keep hb h.1, keep hb h.2⟩
theorem p2v_new (w : World) (t : TypeId) (u v : Value) : P2V (w.alloc (.cells #[u, v] t)) w.heap.size u v := ⟨by simp, by simp⟩
theorem sv_take {w : World} {b off cap l : Nat} {S : Nat → ByteArray} (h : ∀ k, k < l → w.cell? ⟨b, off + k, none⟩ = some (.string (S k))) (hc : l ≤ cap) (hm : cap ≤ maxLen) {k : Nat} (hk : k ≤ l) : SV w (.slice (some ⟨b, off, none⟩) k cap) k S := by
  rcases Nat.eq_zero_or_pos k with rfl | h0
  · exact Or.inl ⟨rfl, Or.inr ⟨_, _, rfl, hm⟩⟩
  · exact Or.inr ⟨h0, b, off, cap, rfl, by omega, hm, fun j hj => h j (by omega)⟩
theorem av_take {w : World} {b off cap m : Nat} {M : Nat → ByteArray} {l : Nat → Nat} {S : Nat → Nat → ByteArray} (h : ∀ k, k < m → A2 w b off k (M k) (l k) (S k)) (hc : m ≤ cap) (hm : cap ≤ maxLen) {k : Nat} (hk : k ≤ m) : AV w (.slice (some ⟨b, off, none⟩) k cap) k M l S := by
  rcases Nat.eq_zero_or_pos k with rfl | h0
  · exact Or.inl ⟨rfl, Or.inr ⟨_, _, rfl, hm⟩⟩
  · exact Or.inr ⟨h0, b, off, cap, rfl, by omega, hm, fun j hj => h j (by omega)⟩
theorem sv_at {w : World} {v : Value} {n : Nat} {S : Nat → ByteArray} (h : SV w v n S) (h0 : 0 < n) : ∃ b off cap, v = .slice (some ⟨b, off, none⟩) n cap ∧ n ≤ cap ∧ cap ≤ maxLen ∧ ∀ k, k < n → w.cell? ⟨b, off + k, none⟩ = some (.string (S k)) := by
  rcases h with ⟨h1, -⟩ | ⟨-, h⟩
  · omega
  · exact h
theorem fv_at {w : World} {v : Value} {n : Nat} {N : Nat → ByteArray} {X Y : Nat → Int} (h : FV w v n N X Y) (h0 : 0 < n) : ∃ b off cap, v = .slice (some ⟨b, off, none⟩) n cap ∧ n ≤ cap ∧ cap ≤ maxLen ∧ ∀ k, k < n → E3 w b off k (N k) (X k) (Y k) := by
  rcases h with ⟨h1, -⟩ | ⟨-, h⟩
  · omega
  · exact h
end Chart
end Go.Proofs.YtddlacjjanincaaDoor
