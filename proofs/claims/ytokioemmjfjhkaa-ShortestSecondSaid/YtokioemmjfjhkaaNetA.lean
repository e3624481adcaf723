/- The net of a chart in memory: views. -/
import Derived.Test.YtokioemmjfjhkaaChV
import Derived.Test.YtokioemmjfjhkaaDijL
import Derived.Test.YtokioemmjfjhkaaRowM
namespace Go.Proofs.Ytokioemmjfjhkaa
open Go.RowKit
namespace Net
open Kit Chart
/-- Numbers in memory. -/
def IV (w : World) (v : Value) (n : Nat) (f : Nat → Int) : Prop := (n = 0 ∧ Nil0 v) ∨ (0 < n ∧ ∃ b off cap, v = .slice (some ⟨b, off, none⟩) n cap ∧ n ≤ cap ∧ cap ≤ maxLen ∧ ∀ k, k < n → w.cell? ⟨b, off + k, none⟩ = some (.int .i64 (f k)))
/-- Lists of numbers in memory. -/
def LV (w : World) (v : Value) (n : Nat) (d : Nat → Nat) (f : Nat → Nat → Int) : Prop := (n = 0 ∧ Nil0 v) ∨ (0 < n ∧ ∃ b off cap, v = .slice (some ⟨b, off, none⟩) n cap ∧ n ≤ cap ∧ cap ≤ maxLen ∧ ∀ k, k < n → ∃ u, w.cell? ⟨b, off + k, none⟩ = some u ∧ IV w u (d k) (f k))
/-- Marks in memory. -/
def BV (w : World) (v : Value) (n : Nat) (f : Nat → Bool) : Prop := (n = 0 ∧ Nil0 v) ∨ (0 < n ∧ ∃ b off cap, v = .slice (some ⟨b, off, none⟩) n cap ∧ n ≤ cap ∧ cap ≤ maxLen ∧ ∀ k, k < n → w.cell? ⟨b, off + k, none⟩ = some (.bool (f k)))
theorem iv_keep {W w1 : World} (hb : Below W.heap.size W w1) {v : Value} {n : Nat} {f : Nat → Int} (h : IV W v n f) : IV w1 v n f := by
  rcases h with h | ⟨h0, b, off, cap, hv, h1, h2, h3⟩
  · exact Or.inl h
  · exact Or.inr ⟨h0, b, off, cap, hv, h1, h2, fun k hk => keep hb (h3 k hk)⟩
theorem lv_keep {W w1 : World} (hb : Below W.heap.size W w1) {v : Value} {n : Nat} {d : Nat → Nat} {f : Nat → Nat → Int} (h : LV W v n d f) : LV w1 v n d f := by
  rcases h with h | ⟨h0, b, off, cap, hv, h1, h2, h3⟩
  · exact Or.inl h
  · exact Or.inr ⟨h0, b, off, cap, hv, h1, h2, fun k hk => (h3 k hk).elim fun u hu => ⟨u, keep hb hu.1, iv_keep hb hu.2⟩⟩
theorem bv_keep {W w1 : World} (hb : Below W.heap.size W w1) {v : Value} {n : Nat} {f : Nat → Bool} (h : BV W v n f) : BV w1 v n f := by
  rcases h with h | ⟨h0, b, off, cap, hv, h1, h2, h3⟩
  · exact Or.inl h
  · exact Or.inr ⟨h0, b, off, cap, hv, h1, h2, fun k hk => keep hb (h3 k hk)⟩
theorem iv_at {w : World} {v : Value} {n : Nat} {f : Nat → Int} (h : IV w v n f) (h0 : 0 < n) : ∃ b off cap, v = .slice (some ⟨b, off, none⟩) n cap ∧ n ≤ cap ∧ cap ≤ maxLen ∧ ∀ k, k < n → w.cell? ⟨b, off + k, none⟩ = some (.int .i64 (f k)) := by
  rcases h with ⟨h1, -⟩ | ⟨-, h⟩
  · omega
  · exact h
theorem lv_at {w : World} {v : Value} {n : Nat} {d : Nat → Nat} {f : Nat → Nat → Int} (h : LV w v n d f) (h0 : 0 < n) : ∃ b off cap, v = .slice (some ⟨b, off, none⟩) n cap ∧ n ≤ cap ∧ cap ≤ maxLen ∧ ∀ k, k < n → ∃ u, w.cell? ⟨b, off + k, none⟩ = some u ∧ IV w u (d k) (f k) := by
  rcases h with ⟨h1, -⟩ | ⟨-, h⟩
  · omega
  · exact h
theorem bv_at {w : World} {v : Value} {n : Nat} {f : Nat → Bool} (h : BV w v n f) (h0 : 0 < n) : ∃ b off cap, v = .slice (some ⟨b, off, none⟩) n cap ∧ n ≤ cap ∧ cap ≤ maxLen ∧ ∀ k, k < n → w.cell? ⟨b, off + k, none⟩ = some (.bool (f k)) := by
  rcases h with ⟨h1, -⟩ | ⟨-, h⟩
  · omega
  · exact h
theorem iv_slice {w : World} {v : Value} {n : Nat} {f : Nat → Int} (h : IV w v n f) : ∃ A cap, v = .slice A n cap := by
  rcases h with ⟨rfl, h⟩ | ⟨-, b, off, cap, rfl, -⟩
  · exact nil0_slice h
  · exact ⟨_, _, rfl⟩
theorem lv_slice {w : World} {v : Value} {n : Nat} {d : Nat → Nat} {f : Nat → Nat → Int} (h : LV w v n d f) : ∃ A cap, v = .slice A n cap := by
  rcases h with ⟨rfl, h⟩ | ⟨-, b, off, cap, rfl, -⟩
  · exact nil0_slice h
  · exact ⟨_, _, rfl⟩
theorem bv_slice {w : World} {v : Value} {n : Nat} {f : Nat → Bool} (h : BV w v n f) : ∃ A cap, v = .slice A n cap := by
  rcases h with ⟨rfl, h⟩ | ⟨-, b, off, cap, rfl, -⟩
  · exact nil0_slice h
  · exact ⟨_, _, rfl⟩
open Short in
/-- The net's value. -/
structure NV (w : World) (v : Value) (G : Gr) (S : Nat → ByteArray) : Prop where
  ex : ∃ a b c, v = .agg #[a, b, c] ∧ SV w a G.N S ∧ LV w b G.N G.deg (fun k i => (G.lk k i : Int)) ∧ LV w c G.N G.deg (fun k i => G.d k (G.lk k i))
open Short in
theorem nv_keep {W w1 : World} (hb : Below W.heap.size W w1) {v : Value} {G : Gr} {S : Nat → ByteArray} (h : NV W v G S) : NV w1 v G S := by
  obtain ⟨a, b, c, e, h1, h2, h3⟩ := h.ex
  exact ⟨a, b, c, e, sv_keep hb h1, lv_keep hb h2, lv_keep hb h3⟩
end Net
end Go.Proofs.Ytokioemmjfjhkaa
