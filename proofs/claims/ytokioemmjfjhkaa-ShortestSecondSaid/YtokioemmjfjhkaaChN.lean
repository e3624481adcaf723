/- chart.Near and chart.Find: what they return. -/
import Derived.Test.YtokioemmjfjhkaaChL
namespace Go.Proofs.Ytokioemmjfjhkaa
open Go.RowKit
namespace Chart
open Kit Plane Poly
theorem bl_irr : ∀ x : List UInt8, Op.bytesLess x x = false
  | [] => rfl
  | a :: x => by
    show (decide (a < a) || (a == a && Op.bytesLess x x)) = false
    rw [bl_irr x]; simp
theorem bl_trans : ∀ {x y z : List UInt8}, Op.bytesLess x y = true → Op.bytesLess y z = true → Op.bytesLess x z = true
  | _, [], z, h, _ => by unfold Op.bytesLess at h; cases h
  | _, b :: y, [], _, h => by unfold Op.bytesLess at h; cases h
  | [], b :: y, c :: z, _, _ => rfl
  | a :: x, b :: y, c :: z, h1, h2 => by
    have h1 : (decide (a < b) || (a == b && Op.bytesLess x y)) = true := h1
    have h2 : (decide (b < c) || (b == c && Op.bytesLess y z)) = true := h2
    show (decide (a < c) || (a == c && Op.bytesLess x z)) = true
    rw [Bool.or_eq_true, Bool.and_eq_true, decide_eq_true_eq, beq_iff_eq] at h1 h2 ⊢
    rcases h1 with h3 | ⟨h3, h4⟩
    · rcases h2 with h5 | ⟨h5, h6⟩
      · exact Or.inl (UInt8.lt_trans h3 h5)
      · exact Or.inl (h5 ▸ h3)
    · rcases h2 with h5 | ⟨h5, h6⟩
      · exact Or.inl (h3 ▸ h5)
      · exact Or.inr ⟨h3.trans h5, bl_trans h4 h6⟩
/-- Fix i is nearer than fix j, or as near and ahead of it by name. -/
def clo (d : Nat → Int) (N : Nat → ByteArray) (i j : Nat) : Bool := decide (d i < d j) || (decide (d i = d j) && Op.bytesLess (N i).toList (N j).toList)
theorem clo_irr {d : Nat → Int} {N : Nat → ByteArray} (i : Nat) : clo d N i i = false := by
  unfold clo
  rw [bl_irr, decide_eq_false (by omega), Bool.and_false]; rfl
theorem clo_trans {d : Nat → Int} {N : Nat → ByteArray} {i j k : Nat} (h1 : clo d N i j = true) (h2 : clo d N j k = true) : clo d N i k = true := by
  unfold clo at *
  rw [Bool.or_eq_true, Bool.and_eq_true, decide_eq_true_eq, decide_eq_true_eq] at *
  rcases h1 with h1 | ⟨h1, h3⟩ <;> rcases h2 with h2 | ⟨h2, h4⟩
  · exact Or.inl (by omega)
  · exact Or.inl (by omega)
  · exact Or.inl (by omega)
  · exact Or.inr ⟨by omega, bl_trans h3 h4⟩
/-- The best of the first k fixes. -/
def bst (d : Nat → Int) (N : Nat → ByteArray) : Nat → Nat
  | 0 => 0
  | k + 1 => if clo d N k (bst d N k) = true then k else bst d N k
theorem bst_lt {d : Nat → Int} {N : Nat → ByteArray} {n : Nat} (h0 : 0 < n) : ∀ k, k ≤ n → bst d N k < n
  | 0, _ => h0
  | k + 1, hk => by
    have := bst_lt (d := d) (N := N) h0 k (by omega)
    show (if clo d N k (bst d N k) = true then k else bst d N k) < n
    split <;> omega
theorem bst_best {d : Nat → Int} {N : Nat → ByteArray} : ∀ k j, j < k → clo d N j (bst d N k) = false
  | 0, j, hj => by omega
  | k + 1, j, hj => by
    show clo d N j (if clo d N k (bst d N k) = true then k else bst d N k) = false
    by_cases hc : clo d N k (bst d N k) = true
    · rw [if_pos hc]
      rcases Nat.lt_or_ge j k with hl | hl
      · cases h : clo d N j k with
        | false => rfl
        | true => have := clo_trans h hc; rw [bst_best k j hl] at this; cases this
      · rw [show j = k from by omega]; exact clo_irr k
    · rw [if_neg hc]
      rcases Nat.lt_or_ge j k with hl | hl
      · exact bst_best k j hl
      · rw [show j = k from by omega]; simpa using hc
theorem s3_set {w : World} {b : Nat} {s : ByteArray} {x y : Int} (h : S3 w b s x y) (s' : ByteArray) (x' y' : Int) : S3 (((w.setCell ⟨b, 0, none⟩ (.string s')).setCell ⟨b, 1, none⟩ (.int .i64 x')).setCell ⟨b, 2, none⟩ (.int .i64 y')) b s' x' y' := by
  have n01 : (⟨b, 0, none⟩ : Addr) ≠ ⟨b, 1, none⟩ := fun h => by injection h with _ h; omega
  have n02 : (⟨b, 0, none⟩ : Addr) ≠ ⟨b, 2, none⟩ := fun h => by injection h with _ h; omega
  have n12 : (⟨b, 1, none⟩ : Addr) ≠ ⟨b, 2, none⟩ := fun h => by injection h with _ h; omega
  exact ⟨cfar _ n02.symm (cfar _ n01.symm (cset _ h.c0)), cfar _ n12.symm (cset _ (cfar _ n01 h.c1)), cset _ (cfar _ n12 (cfar _ n02 h.c2))⟩
theorem fz3 (w : World) (a b c : Addr) (u v x : Value) (p : Addr) : (((w.setCell a u).setCell b v).setCell c x).frozen? p = w.frozen? p := by
  rw [World.frozen?_setCell, World.frozen?_setCell, World.frozen?_setCell]
theorem p2_after (w : World) (o : Obj) (t : TypeId) (x y : Int) : P2 ((w.alloc o).alloc (.cells #[.int .i64 x, .int .i64 y] t)) (w.heap.size + 1) x y := by
  have h := p2_new (w.alloc o) t x y
  rw [World.size_alloc] at h; exact h
/-- chart.Near's answer. -/
def nearR (E : Int) (n : Nat) (N : Nat → ByteArray) (X Y : Nat → Int) (qx qy : Int) : ByteArray × Int :=
  if E ≠ 0 then (⟨#[]⟩, E) else if goodB qx qy = false then (⟨#[]⟩, 4) else if n = 0 then (⟨#[]⟩, 8) else (N (bst (fun k => sqr qx qy (X k) (Y k)) N n), 0)
end Chart
end Go.Proofs.Ytokioemmjfjhkaa
