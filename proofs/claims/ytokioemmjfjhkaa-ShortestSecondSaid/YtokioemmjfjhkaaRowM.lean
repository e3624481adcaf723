/- Rows that grow by append. -/
import Derived.Test.YtokioemmjfjhkaaRowK
namespace Go.Proofs.Ytokioemmjfjhkaa
open Go.RowKit
namespace Kit
theorem own_keep {W w1 : World} {base : Nat} {E : TypeId} {C n : Nat} {v : Value} {f : Nat → Nat → Int} (hb : Below W.heap.size W w1) (h : Own W base E C v n f) : Own w1 base E C v n f := by
  refine ⟨h.1, ?_⟩
  rcases h.2 with hh | ⟨g, cap, cur, hv, h1, hg, h2⟩
  · exact Or.inl hh
  · have hlt : g < W.heap.size := by
      rcases Nat.lt_or_ge g W.heap.size with hl | hl
      · exact hl
      · rw [Array.getElem?_eq_none hl] at hg; cases hg
    exact Or.inr ⟨g, cap, cur, hv, h1, (hb.block g hlt).trans hg, h2⟩
theorem own_ge {W : World} {base : Nat} {E : TypeId} {C n : Nat} {v : Value} {f : Nat → Nat → Int} (h : Own W base E C v n f) : ∀ k, v.ownBlock = some k → base ≤ k := by
  intro k hk
  rcases h.2 with ⟨rfl, -⟩ | ⟨g, cap, cur, rfl, h1, -⟩
  · simp [Value.ownBlock] at hk
  · simp [Value.ownBlock] at hk; omega
theorem own_nil (w : World) (base : Nat) (E : TypeId) (C : Nat) (f : Nat → Nat → Int) : Own w base E C (.slice none 0 0) 0 f := ⟨by simp [rowL], Or.inl ⟨rfl, rfl⟩⟩
theorem grow_below {N : Nat} {W w w1 : World} {v : Value} {base : Nat} {E : TypeId} {C n : Nat} {f : Nat → Nat → Int} (hb : Below N W w) (h : Own w base E C v n f) (hg : w.grownBy w1 v.ownBlock) (hN : N ≤ base) (hs : N ≤ w.heap.size) : Below N W w1 :=
  hb.grown hg hs (fun k hk => Nat.le_trans hN (own_ge h k hk))
end Kit
end Go.Proofs.Ytokioemmjfjhkaa
