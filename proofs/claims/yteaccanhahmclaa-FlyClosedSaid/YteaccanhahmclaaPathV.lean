/- A path that comes in, opened. -/
import Derived.Test.YteaccanhahmclaaPath
import Derived.Test.YteaccanhahmclaaShapes
namespace Go.Proofs.Yteaccanhahmclaa
open Go.RowKit
namespace Path
open Kit
theorem pv_of {W : World} {v : Value} (h : Frame.Okc W (.sl [.int, .int, .int, .int]) v) : ∃ n T X Y H, PV W v n T X Y H := by
  rcases h.sl_inv with rfl | ⟨a, cap, rfl, hc⟩ | ⟨b, off, len, cap, cells, rfl, h0, h1, h2, hc, ho⟩
  · exact ⟨0, fun _ => 0, fun _ => 0, fun _ => 0, fun _ => 0, Or.inl ⟨rfl, Or.inl rfl⟩⟩
  · exact ⟨0, fun _ => 0, fun _ => 0, fun _ => 0, fun _ => 0, Or.inl ⟨rfl, Or.inr ⟨a, cap, rfl, hc⟩⟩⟩
  · have z : ∀ i, i < len → ∀ j (hj : j < 4), ∃ n : Int, cells i j = .int .i64 n := fun i hi j hj => by
      have hk := ho i hi j hj
      have hj' : j = 0 ∨ j = 1 ∨ j = 2 ∨ j = 3 := by omega
      rcases hj' with rfl | rfl | rfl | rfl <;> (obtain ⟨n, e, _⟩ := hk.int_inv; exact ⟨n, e⟩)
    let g : Nat → Nat → Int := fun i j => match cells i j with | .int _ n => n | _ => 0
    have hg : ∀ i, i < len → ∀ j, j < 4 → W.cell? ⟨b, off + i * 4 + j, none⟩ = some (.int .i64 (g i j)) := fun i hi j hj => by
      obtain ⟨n, e⟩ := z i hi j hj
      have hcc := hc i hi j hj
      show W.cell? _ = some (.int .i64 (match cells i j with | .int _ n => n | _ => 0))
      rw [e] at hcc ⊢
      exact hcc
    exact ⟨len, fun i => g i 0, fun i => g i 1, fun i => g i 2, fun i => g i 3, Or.inr ⟨h0, b, off, cap, rfl, h1, h2, fun k hk => ⟨⟨hg k hk 0 (by decide), hg k hk 1 (by decide)⟩, ⟨hg k hk 2 (by decide), hg k hk 3 (by decide)⟩⟩⟩⟩
end Path
end Go.Proofs.Yteaccanhahmclaa
