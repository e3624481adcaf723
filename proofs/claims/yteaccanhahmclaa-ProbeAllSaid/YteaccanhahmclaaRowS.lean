/- Rows that a call owns: made whole, and one number turned in them. -/
import Derived.Test.YteaccanhahmclaaRowM
namespace Go.Proofs.Yteaccanhahmclaa
open Go.RowKit
namespace Kit
theorem own_made {w : World} {base : Nat} {E : TypeId} {C n : Nat} {f : Nat → Nat → Int} (cs : Array Value) (hb : base ≤ w.heap.size) (hn : n ≤ maxLen) (h : cs.toList = rowL C f n) : Own (w.alloc (.cells cs E)) base E C (.slice (some ⟨w.heap.size, 0, none⟩) n n) n f := by
  have hs : cs.size = n * C := by rw [← Array.length_toList, h, rowL_len]
  exact ⟨rowL_len C f n, Or.inr ⟨w.heap.size, n, cs, rfl, hb, heap_alloc_new w _, Nat.le_refl _, hn, hs, by rw [h]; exact List.take_of_length_le (by rw [rowL_len]; exact Nat.le_refl _)⟩⟩
theorem own_congr {w : World} {base : Nat} {E : TypeId} {C n : Nat} {v : Value} {f f' : Nat → Nat → Int} (h : Own w base E C v n f) (e : ∀ i, i < n → ∀ j, j < C → f i j = f' i j) : Own w base E C v n f' := by
  show w.ownsRow base E C v n (rowL C f' n)
  rw [← rowL_congr e]; exact h
theorem rowL_upd {C : Nat} {f : Nat → Nat → Int} {n i j : Nat} (hi : i < n) (hj : j < C) (x : Int) : rowL C (upd f i j x) n = (rowL C f n).set (i * C + j) (.int .i64 x) := by
  have hlt : i * C + j < n * C := by
    have := Nat.mul_le_mul_right C (show i + 1 ≤ n by omega); rw [Nat.succ_mul] at this; omega
  refine List.ext_getElem? fun k => ?_
  rcases Nat.lt_or_ge k (n * C) with hk | hk
  · have hC : 0 < C := by omega
    have h1 : k / C < n := Nat.div_lt_of_lt_mul (by rw [Nat.mul_comm]; exact hk)
    have h2 : k % C < C := Nat.mod_lt _ hC
    have hk' : k / C * C + k % C = k := by rw [Nat.mul_comm]; exact Nat.div_add_mod k C
    have g1 := rowL_get (f := upd f i j x) h1 h2
    have g2 := rowL_get (f := f) h1 h2
    rw [hk'] at g1 g2
    rw [g1, List.getElem?_set]
    by_cases e : i * C + j = k
    · rw [if_pos e, if_pos (by rw [rowL_len]; exact hlt)]
      have q1 : k / C = i := by rw [← e, Nat.mul_comm, Nat.mul_add_div hC, Nat.div_eq_of_lt hj]; rfl
      have q2 : k % C = j := by rw [← e, Nat.mul_comm, Nat.mul_add_mod, Nat.mod_eq_of_lt hj]
      rw [q1, q2]; unfold upd; rw [if_pos ⟨rfl, rfl⟩]
    · rw [if_neg e, g2]
      unfold upd
      rw [if_neg]
      rintro ⟨q1, q2⟩
      rw [q1, q2] at hk'
      exact e hk'
  · rw [List.getElem?_eq_none (by rw [rowL_len]; exact hk), List.getElem?_eq_none (by rw [List.length_set, rowL_len]; exact hk)]
/-- A number turned in an own row. -/
theorem own_set {w : World} {base g cap : Nat} {E : TypeId} {C n : Nat} {f : Nat → Nat → Int} (h : Own w base E C (.slice (some ⟨g, 0, none⟩) n cap) n f) {i j : Nat} (hi : i < n) (hj : j < C) (x : Int) : Own (w.setCell ⟨g, i * C + j, none⟩ (.int .i64 x)) base E C (.slice (some ⟨g, 0, none⟩) n cap) n (upd f i j x) := by
  have hlt : i * C + j < n * C := by
    have := Nat.mul_le_mul_right C (show i + 1 ≤ n by omega); rw [Nat.succ_mul] at this; omega
  refine ⟨rowL_len C _ n, ?_⟩
  rcases h.2 with ⟨e, -⟩ | ⟨g', cap', cur, e, hb, hg, h1, h2, h3, h4⟩
  · cases e
  · injection e with e1 e2 e3
    injection e1 with e1
    injection e1 with e1 _
    subst e1 e3
    refine Or.inr ⟨g, cap, cur.setIfInBounds (i * C + j) (.int .i64 x), rfl, hb, ?_, h1, h2, by simpa using h3, ?_⟩
    · simp [World.setCell, Array.getElem?_modify, hg]
    · rw [Array.toList_setIfInBounds, List.take_set, h4, rowL_upd hi hj]
end Kit
end Go.Proofs.Yteaccanhahmclaa
