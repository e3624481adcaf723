/- Charts as arguments. -/
import Derived.Test.YtokioemmjfjhkaaChW
namespace Go.Proofs.Ytokioemmjfjhkaa
open Go.RowKit
namespace Chart
open Kit Plane Poly
def strOf : Value → ByteArray
  | .string s => s
  | _ => ⟨#[]⟩
def numOf : Value → Int
  | .int _ n => n
  | _ => 0
theorem sv_of {W : World} {v : Value} (h : Frame.Okc W (.sl [.str]) v) : ∃ n S, SV W v n S := by
  rcases h.sl_inv with rfl | ⟨a, cap, rfl, hc⟩ | ⟨b, off, len, cap, cells, rfl, h0, h1, h2, hc, ho⟩
  · exact ⟨0, fun _ => ⟨#[]⟩, Or.inl ⟨rfl, Or.inl rfl⟩⟩
  · exact ⟨0, fun _ => ⟨#[]⟩, Or.inl ⟨rfl, Or.inr ⟨a, cap, rfl, hc⟩⟩⟩
  · refine ⟨len, fun i => strOf (cells i 0), Or.inr ⟨h0, b, off, cap, rfl, h1, h2, fun k hk => ?_⟩⟩
    have e := hc k hk 0 (by decide)
    obtain ⟨s, es, -⟩ := (ho k hk 0 (by decide)).str_inv
    rw [show off + k * [Frame.Kd.str].length + 0 = off + k from by simp, es] at e
    dsimp only; rw [es]; exact e
theorem fv_of {W : World} {v : Value} (h : Frame.Okc W (.sl [.str, .int, .int]) v) : ∃ n N X Y, FV W v n N X Y := by
  rcases h.sl_inv with rfl | ⟨a, cap, rfl, hc⟩ | ⟨b, off, len, cap, cells, rfl, h0, h1, h2, hc, ho⟩
  · exact ⟨0, fun _ => ⟨#[]⟩, fun _ => 0, fun _ => 0, Or.inl ⟨rfl, Or.inl rfl⟩⟩
  · exact ⟨0, fun _ => ⟨#[]⟩, fun _ => 0, fun _ => 0, Or.inl ⟨rfl, Or.inr ⟨a, cap, rfl, hc⟩⟩⟩
  · refine ⟨len, fun i => strOf (cells i 0), fun i => numOf (cells i 1), fun i => numOf (cells i 2), Or.inr ⟨h0, b, off, cap, rfl, h1, h2, fun k hk => ?_⟩⟩
    obtain ⟨s, es, -⟩ := (ho k hk 0 (by decide)).str_inv
    obtain ⟨x, ex, -⟩ := (ho k hk 1 (by decide)).int_inv
    obtain ⟨y, ey, -⟩ := (ho k hk 2 (by decide)).int_inv
    have e0 := hc k hk 0 (by decide); have e1 := hc k hk 1 (by decide); have e2 := hc k hk 2 (by decide)
    rw [es] at e0; rw [ex] at e1; rw [ey] at e2
    exact ⟨by dsimp only; rw [es]; exact e0, by dsimp only; rw [ex]; exact e1, by dsimp only; rw [ey]; exact e2⟩
theorem av_of {W : World} {v : Value} (h : Frame.Okc W (.sl [.str, .sl [.str]]) v) : ∃ m M l S, AV W v m M l S := by
  rcases h.sl_inv with rfl | ⟨a, cap, rfl, hc⟩ | ⟨b, off, len, cap, cells, rfl, h0, h1, h2, hc, ho⟩
  · exact ⟨0, fun _ => ⟨#[]⟩, fun _ => 0, fun _ _ => ⟨#[]⟩, Or.inl ⟨rfl, Or.inl rfl⟩⟩
  · exact ⟨0, fun _ => ⟨#[]⟩, fun _ => 0, fun _ _ => ⟨#[]⟩, Or.inl ⟨rfl, Or.inr ⟨a, cap, rfl, hc⟩⟩⟩
  · have key : ∀ i, ∃ p : Nat × (Nat → ByteArray), i < len → SV W (cells i 1) p.1 p.2 := fun i => by
      by_cases hi : i < len
      · obtain ⟨n, S, hs⟩ := sv_of (ho i hi 1 (by decide))
        exact ⟨(n, S), fun _ => hs⟩
      · exact ⟨(0, fun _ => ⟨#[]⟩), fun h => absurd h hi⟩
    refine ⟨len, fun i => strOf (cells i 0), fun i => (Classical.choose (key i)).1, fun i => (Classical.choose (key i)).2, Or.inr ⟨h0, b, off, cap, rfl, h1, h2, fun k hk => ?_⟩⟩
    obtain ⟨s, es, -⟩ := (ho k hk 0 (by decide)).str_inv
    have e0 := hc k hk 0 (by decide); have e1 := hc k hk 1 (by decide)
    rw [es] at e0
    exact ⟨by dsimp only; rw [es]; exact e0, _, e1, Classical.choose_spec (key k) hk⟩
theorem cv_of {W : World} {fx aw : Value} (h1 : Frame.Okc W (.sl [.str, .int, .int]) fx) (h2 : Frame.Okc W (.sl [.str, .sl [.str]]) aw) : ∃ n N X Y m M l S, CV W (.agg #[fx, aw]) n N X Y m M l S := by
  obtain ⟨n, N, X, Y, hf⟩ := fv_of h1
  obtain ⟨m, M, l, S, ha⟩ := av_of h2
  exact ⟨n, N, X, Y, m, M, l, S, ⟨fx, aw, rfl, hf, ha⟩⟩
end Chart
end Go.Proofs.Ytokioemmjfjhkaa
