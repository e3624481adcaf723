/- What the functions of package fly return on paths: each walked once. -/
import Derived.Test.YtlgdcpkjobbnnaaToward
import Derived.Test.YtlgdcpkjobbnnaaPathP
import Derived.Test.YtlgdcpkjobbnnaaDraw
namespace Go.Proofs.Ytlgdcpkjobbnnaa
open Go.RowKit
namespace Path
open Kit Plane
/-- A path in memory: nil, empty, or n nodes from an address on. -/
def PV (w : World) (v : Value) (n : Nat) (T X Y H : Nat → Int) : Prop :=
  (n = 0 ∧ (v = .slice none 0 0 ∨ ∃ a cap, v = .slice (some a) 0 cap ∧ cap ≤ maxLen)) ∨ (0 < n ∧ ∃ b off cap, v = .slice (some ⟨b, off, none⟩) n cap ∧ n ≤ cap ∧ cap ≤ maxLen ∧ ∀ k, k < n → N4 w b off k (T k) (X k) (Y k) (H k))
theorem pv_keep {W w1 : World} (hb : Below W.heap.size W w1) {v : Value} {n : Nat} {T X Y H : Nat → Int} (h : PV W v n T X Y H) : PV w1 v n T X Y H := by
  rcases h with h | ⟨h0, b, off, cap, hv, h1, h2, h3⟩
  · exact Or.inl h
  · exact Or.inr ⟨h0, b, off, cap, hv, h1, h2, fun k hk => n4_keep hb (h3 k hk)⟩
end Path
end Go.Proofs.Ytlgdcpkjobbnnaa
