/- Lists of plans as arguments. -/
import Derived.Test.YtddlacjjanincaaDoorPlV
namespace Go.Proofs.YtddlacjjanincaaDoor
open Go.RowKit
namespace Pt
open Kit Chart Route Plan Name
def strOf : Value → ByteArray
  | .string s => s
  | _ => ⟨#[]⟩
def numOf : Value → Int
  | .int _ n => n
  | _ => 0
theorem sl_okc {W : World} {v : Value} (h : Frame.Okc W (.sl [.str]) v) : ∃ L, SL W v L := by
  rcases h.sl_inv with rfl | ⟨a, cap, rfl, hc⟩ | ⟨b, off, len, cap, cells, rfl, h0, h1, h2, hc, ho⟩
  · exact ⟨[], Or.inl ⟨rfl, Or.inl rfl⟩⟩
  · exact ⟨[], Or.inl ⟨rfl, Or.inr ⟨a, cap, rfl, hc⟩⟩⟩
  · have hl : ((List.range len).map fun i => strOf (cells i 0)).length = len := by rw [List.length_map, List.length_range]
    refine ⟨(List.range len).map fun i => strOf (cells i 0), Or.inr ⟨by rw [hl]; exact h0, b, off, cap, by rw [hl], by rw [hl]; exact h1, h2, fun k hk => ?_⟩⟩
    rw [hl] at hk
    have e := hc k hk 0 (by decide)
    obtain ⟨s, es, -⟩ := (ho k hk 0 (by decide)).str_inv
    rw [show off + k * [Frame.Kd.str].length + 0 = off + k from by simp, es] at e
    rw [e]
    show _ = some (Value.string (((List.range len).map fun i => strOf (cells i 0)).getD k ⟨#[]⟩))
    rw [List.getD_eq_getElem?_getD, List.getElem?_map, List.getElem?_range hk]
    show _ = some (Value.string (strOf (cells k 0)))
    rw [es]; rfl
theorem pv_okc {W : World} {v : Value} (h : Frame.Okc W (.sl [.str, .str, .str, .str, .int, .int, .int, .sl [.str]]) v) : ∃ n P, PV W v n P := by
  rcases h.sl_inv with rfl | ⟨a, cap, rfl, hc⟩ | ⟨b, off, len, cap, cells, rfl, h0, h1, h2, hc, ho⟩
  · exact ⟨0, fun _ => ⟨⟨#[]⟩, ⟨#[]⟩, ⟨#[]⟩, ⟨#[]⟩, 0, 0, 0, []⟩, Or.inl ⟨rfl, Or.inl rfl⟩⟩
  · exact ⟨0, fun _ => ⟨⟨#[]⟩, ⟨#[]⟩, ⟨#[]⟩, ⟨#[]⟩, 0, 0, 0, []⟩, Or.inl ⟨rfl, Or.inr ⟨a, cap, rfl, hc⟩⟩⟩
  · have key : ∀ i, ∃ L : List ByteArray, i < len → SL W (cells i 7) L := fun i => by
      by_cases hi : i < len
      · obtain ⟨L, hs⟩ := sl_okc (ho i hi 7 (by decide))
        exact ⟨L, fun _ => hs⟩
      · exact ⟨[], fun h => absurd h hi⟩
    refine ⟨len, fun i => ⟨strOf (cells i 0), strOf (cells i 1), strOf (cells i 2), strOf (cells i 3), numOf (cells i 4), numOf (cells i 5), numOf (cells i 6), Classical.choose (key i)⟩, Or.inr ⟨h0, b, off, cap, rfl, h1, h2, fun k hk => ?_⟩⟩
    have q := fun j (hj : j < 8) => hc k hk j hj
    have e : ∀ j, off + k * [Frame.Kd.str, .str, .str, .str, .int, .int, .int, .sl [.str]].length + j = off + k * 8 + j := fun j => rfl
    have S : ∀ j (hj : j < 8), (∃ s, cells k j = .string s ∧ s.size ≤ maxLen) → W.cell? ⟨b, off + k * 8 + j, none⟩ = some (.string (strOf (cells k j))) := fun j hj ⟨s, es, _⟩ => by
      have := q j hj
      rw [e, es] at this
      rw [this, es]; rfl
    have I : ∀ j (hj : j < 8), (∃ n, cells k j = .int .i64 n) → W.cell? ⟨b, off + k * 8 + j, none⟩ = some (.int .i64 (numOf (cells k j))) := fun j hj ⟨n, es⟩ => by
      have := q j hj
      rw [e, es] at this
      rw [this, es]; rfl
    have J : ∀ j, Frame.Okc W .int (cells k j) → ∃ n, cells k j = .int .i64 n := fun j h => by
      obtain ⟨n, en, -⟩ := h.int_inv
      exact ⟨n, en⟩
    exact ⟨S 0 (by decide) (ho k hk 0 (by decide)).str_inv, S 1 (by decide) (ho k hk 1 (by decide)).str_inv, S 2 (by decide) (ho k hk 2 (by decide)).str_inv, S 3 (by decide) (ho k hk 3 (by decide)).str_inv, I 4 (by decide) (J 4 (ho k hk 4 (by decide))), I 5 (by decide) (J 5 (ho k hk 5 (by decide))), I 6 (by decide) (J 6 (ho k hk 6 (by decide))), cells k 7, q 7 (by decide), Classical.choose_spec (key k) hk⟩
/-- Two lists that are the same, place by place. -/
theorem pv_congr {w : World} {v : Value} {n : Nat} {P P' : Nat → Pl} (h : PV w v n P) (e : ∀ k, k < n → P k = P' k) : PV w v n P' := by
  rcases h with h | ⟨h0, b, off, cap, hv, h1, h2, h3⟩
  · exact Or.inl h
  · exact Or.inr ⟨h0, b, off, cap, hv, h1, h2, fun k hk => by rw [← e k hk]; exact h3 k hk⟩
end Pt
end Go.Proofs.YtddlacjjanincaaDoor
