/- wind.Check's contract at any argument; how an argument reads. -/
import Derived.Test.YtkapllakofndlaaDoorWind
namespace Go.Proofs.YtkapllakofndlaaDoor
open Go.RowKit
namespace Wind
open Kit
theorem wv_of {W : World} {v : Value} (h : Frame.Okc W (.sl [.int, .int, .int, .int, .int]) v) : ∃ n L H X Y E, WV W v n L H X Y E ∧ ∀ k, ((-9223372036854775808 ≤ L k ∧ L k ≤ 9223372036854775807) ∧ (-9223372036854775808 ≤ H k ∧ H k ≤ 9223372036854775807)) ∧ (-9223372036854775808 ≤ X k ∧ X k ≤ 9223372036854775807) ∧ (-9223372036854775808 ≤ Y k ∧ Y k ≤ 9223372036854775807) ∧ (-9223372036854775808 ≤ E k ∧ E k ≤ 9223372036854775807) := by
  rcases h.sl_inv with rfl | ⟨a, cap, rfl, hc⟩ | ⟨b, off, len, cap, cells, rfl, h0, h1, h2, hc, ho⟩
  · exact ⟨0, fun _ => 0, fun _ => 0, fun _ => 0, fun _ => 0, fun _ => 0, Or.inl ⟨rfl, Or.inl rfl⟩, fun _ => by simp⟩
  · exact ⟨0, fun _ => 0, fun _ => 0, fun _ => 0, fun _ => 0, fun _ => 0, Or.inl ⟨rfl, Or.inr ⟨a, cap, rfl, hc⟩⟩, fun _ => by simp⟩
  · have z : ∀ i, i < len → ∀ j (hj : j < 5), ∃ n : Int, cells i j = .int .i64 n ∧ -9223372036854775808 ≤ n ∧ n ≤ 9223372036854775807 := fun i hi j hj => by
      have hk := ho i hi j hj
      have hj' : j = 0 ∨ j = 1 ∨ j = 2 ∨ j = 3 ∨ j = 4 := by omega
      rcases hj' with rfl | rfl | rfl | rfl | rfl <;> exact hk.int_inv
    let g : Nat → Nat → Int := fun i j => if i < len ∧ j < 5 then match cells i j with | .int _ n => n | _ => 0 else 0
    have hg : ∀ i, i < len → ∀ j, j < 5 → W.cell? ⟨b, off + i * 5 + j, none⟩ = some (.int .i64 (g i j)) := fun i hi j hj => by
      obtain ⟨n, e, _⟩ := z i hi j hj
      have hcc := hc i hi j hj
      show W.cell? _ = some (.int .i64 (if i < len ∧ j < 5 then match cells i j with | .int _ n => n | _ => 0 else 0))
      rw [if_pos ⟨hi, hj⟩]
      rw [e] at hcc ⊢
      exact hcc
    have hgb : ∀ i j, -9223372036854775808 ≤ g i j ∧ g i j ≤ 9223372036854775807 := fun i j => by
      show -9223372036854775808 ≤ (if i < len ∧ j < 5 then match cells i j with | .int _ n => n | _ => 0 else 0) ∧ (if i < len ∧ j < 5 then match cells i j with | .int _ n => n | _ => 0 else 0) ≤ 9223372036854775807
      split
      · rename_i hh
        obtain ⟨n, e, hb⟩ := z i hh.1 j hh.2
        rw [e]
        exact hb
      · omega
    exact ⟨len, fun i => g i 0, fun i => g i 1, fun i => g i 2, fun i => g i 3, fun i => g i 4, Or.inr ⟨h0, b, off, cap, rfl, h1, h2, fun k hk => ⟨hg k hk 0 (by decide), hg k hk 1 (by decide), hg k hk 2 (by decide), hg k hk 3 (by decide), hg k hk 4 (by decide)⟩⟩, fun k => ⟨⟨hgb k 0, hgb k 1⟩, hgb k 2, hgb k 3, hgb k 4⟩⟩
theorem check_big (A : Option Addr) (n cap : Nat) (w : World) (hn : 16 < n) (_hc : n ≤ cap) (_hm : cap ≤ 9223372036854775807) : Calls Tryd.prog 39 #[.slice A n cap] w fun e w' => e = .returned (.int .i64 2) ∧ w = w' := by
  have h : (16 : Int) < (n : Int) := by omega
  go_enter Tryd.func39, Tryd.ntmps39
  go_wp2
  all_goals first | (exfalso; omega) | (go_ret; exact ⟨rfl, rfl⟩)
theorem check_none (A : Option Addr) (cap : Nat) (w : World) : Calls Tryd.prog 39 #[.slice A 0 cap] w fun e w' => e = .returned (.int .i64 0) ∧ Below w.heap.size w w' := by
  go_enter Tryd.func39, Tryd.ntmps39
  go_wp2_with fail
  go_loopw [11] (fun s wr => s = .int .i64 0 ∧ w = wr) (fun _ _ => 0)
  case atStart => exact ⟨rfl, rfl⟩
  case round =>
    obtain ⟨rfl, rfl⟩ := hrel
    go_wp2_with fail
    go_ret
    exact ⟨rfl, Below.refl _ _⟩
theorem checkC {v : Value} {n : Nat} {L H X Y E : Nat → Int} {w : World} (hv : WV w v n L H X Y E) : ∀ w1, Below w.heap.size w w1 → Calls Tryd.prog 39 #[v] w1 fun e w' => e = .returned (.int .i64 (wck L H X Y E n)) ∧ Below w1.heap.size w1 w' := fun w1 hb => by
  unfold wck
  rcases wv_keep hb hv with ⟨h0, hs⟩ | ⟨h0, b, off, cap, rfl, h1, h2, h3⟩
  · subst h0
    rw [if_neg (by decide)]
    rcases hs with rfl | ⟨a, cap, rfl, -⟩
    · exact check_none _ _ w1
    · exact check_none _ _ w1
  · by_cases hn : 16 < n
    · rw [if_pos hn]
      exact (check_big _ n cap w1 hn h1 (Nat.le_trans h2 (by decide))).mono fun _ _ ⟨he, hw⟩ => ⟨he, hw ▸ Below.refl _ _⟩
    · rw [if_neg hn]
      exact check_w n cap b off L H X Y E w1 h0 (by omega) h1 (Nat.le_trans h2 (by decide)) (Lib.hid h3)
end Wind
end Go.Proofs.YtkapllakofndlaaDoor
