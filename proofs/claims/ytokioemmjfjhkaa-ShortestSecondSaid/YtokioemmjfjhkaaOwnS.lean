/- Rows of names of the call's own: small laws. -/
import Derived.Test.YtokioemmjfjhkaaExpB
import Derived.Test.YtokioemmjfjhkaaChE
namespace Go.Proofs.Ytokioemmjfjhkaa
open Go.RowKit
namespace Own0
open Kit Chart Route
theorem vs_srow (L : List ByteArray) : vs L = srow (fun k => L.getD k ⟨#[]⟩) L.length := by
  apply List.ext_getElem?
  intro i
  rcases Nat.lt_or_ge i L.length with h | h
  · rw [srow_at h, List.getElem?_map, List.getElem?_eq_getElem h, List.getD_eq_getElem?_getD, List.getElem?_eq_getElem h]; rfl
  · rw [List.getElem?_eq_none (by rw [List.length_map]; exact h), List.getElem?_eq_none (by rw [srow_len]; exact h)]
/-- Cells of names that may be turned. -/
def Row (w : World) (g n : Nat) (S : Nat → ByteArray) : Prop := ∀ k, k < n → w.cell? ⟨g, k, none⟩ = some (.string (S k)) ∧ w.frozen? ⟨g, k, none⟩ = false
theorem row_of {w : World} {base : Nat} {E : TypeId} {v : Value} {L : List ByteArray} (h : w.ownsRow base E 1 v L.length (vs L)) (h0 : 0 < L.length) : ∃ g cap, v = .slice (some ⟨g, 0, none⟩) L.length cap ∧ base ≤ g ∧ g < w.heap.size ∧ L.length ≤ cap ∧ cap ≤ maxLen ∧ Row w g L.length (fun k => L.getD k ⟨#[]⟩) := by
  rw [vs_srow] at h
  obtain ⟨g, cap, e, h1, h2, h3, h4, h5⟩ := srow_of h h0
  exact ⟨g, cap, e, h1, h2, h3, h4, fun k hk => ⟨h5.cell k hk, h5.free k⟩⟩
theorem row_keep {w w1 : World} (hb : Below w.heap.size w w1) {g n : Nat} {S : Nat → ByteArray} (h : Row w g n S) : Row w1 g n S := fun k hk => ⟨keep hb (h k hk).1, keepF hb (h k hk).1 (h k hk).2⟩
theorem own_lt {w : World} {base : Nat} {E : TypeId} {C n : Nat} {v : Value} {xs : List Value} (h : w.ownsRow base E C v n xs) : ∀ b, v.ownBlock = some b → b < w.heap.size := by
  intro b hb
  rcases h.2 with ⟨rfl, -⟩ | ⟨g, cap, cur, rfl, -, hg, -⟩
  · cases hb
  · cases hb; exact (Array.getElem?_eq_some_iff.1 hg).1
theorem own_below {W w1 : World} {base : Nat} {E : TypeId} {C n : Nat} {v : Value} {xs : List Value} (hb : Below W.heap.size W w1) (h : W.ownsRow base E C v n xs) : w1.ownsRow base E C v n xs := by
  refine ⟨h.1, ?_⟩
  rcases h.2 with hh | ⟨g, cap, cur, hv, h1, hg, h2⟩
  · exact Or.inl hh
  · exact Or.inr ⟨g, cap, cur, hv, h1, (hb.block g (Array.getElem?_eq_some_iff.1 hg).1).trans hg, h2⟩
theorem own_slice0 {w : World} {base : Nat} {E : TypeId} {C n : Nat} {v : Value} {xs : List Value} (h : w.ownsRow base E C v n xs) : ∃ A cap, v = .slice A n cap := by
  rcases h.2 with ⟨rfl, rfl⟩ | ⟨g, cap, cur, rfl, -⟩
  · exact ⟨_, _, rfl⟩
  · exact ⟨_, _, rfl⟩
theorem own_ge0 {w : World} {base : Nat} {E : TypeId} {C n : Nat} {v : Value} {xs : List Value} (h : w.ownsRow base E C v n xs) : ∀ k, v.ownBlock = some k → base ≤ k := by
  intro k hk
  rcases h.2 with ⟨rfl, -⟩ | ⟨g, cap, cur, rfl, h1, -⟩
  · simp [Value.ownBlock] at hk
  · simp [Value.ownBlock] at hk; omega
theorem grow_b {N : Nat} {W w w1 : World} {v : Value} {base : Nat} {E : TypeId} {C n : Nat} {xs : List Value} (hb : Below N W w) (h : w.ownsRow base E C v n xs) (hg : w.grownBy w1 v.ownBlock) (hN : N ≤ base) (hs : N ≤ w.heap.size) : Below N W w1 :=
  hb.grown hg hs (fun k hk => Nat.le_trans hN (own_ge0 h k hk))
end Own0
end Go.Proofs.Ytokioemmjfjhkaa
