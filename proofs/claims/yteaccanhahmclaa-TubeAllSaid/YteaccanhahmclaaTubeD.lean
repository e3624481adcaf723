/- tube.Shift and tube.Widen: what they return. -/
import Derived.Test.YteaccanhahmclaaTubeQ
import Derived.Test.YteaccanhahmclaaTail
namespace Go.Proofs.Yteaccanhahmclaa
open Go.RowKit
namespace Tube
open Kit Plane
theorem info_tube : (Try.prog.info? 70).map (fun i => (i.zero, i.size, i.bytes)) = some (some (.agg #[.int .i64 0, .int .i64 0, .int .i64 0, .int .i64 0, .int .i64 0, .int .i64 0]), 6, 48) := by kernel_rfl
set_option maxRecDepth 100000 in
set_option maxHeartbeats 1000000 in
theorem clone_tube (n cap b off : Nat) (f : Nat → Nat → Int) (w : World) (h0 : 0 < n) (hn : n ≤ 1000) (_hc : n ≤ cap) (HV : Hid (∀ i, i < n → ∀ j, j < 6 → w.cell? ⟨b, off + i * 6 + j, none⟩ = some (.int .i64 (f i j)))) :
    Calls Try.prog 81 #[.slice (some ⟨b, off, none⟩) n cap] w fun e w' => ∃ v, e = .returned v ∧ Own w' w.heap.size 70 6 v n f ∧ Below w.heap.size w w' := by
  obtain ⟨i0, hi, hz0, hz1, hz2⟩ := info_parts info_tube
  have hnil := fun W : World => Lib.run_eql_slice_nil (P := Try.prog) W 62 70 (some ⟨b, off, none⟩) n cap 0 0 Try.underlying62
  go_enter Try.func81, Try.ntmps81
  have hs := src_rows HV.out
  have hb0 := b_alloc (Below.refl w.heap.size w) (.cells #[] 70)
  have hs' : ∀ j u, (rowL 6 f n)[j]? = some u → (w.alloc (.cells #[] 70)).cell? ((⟨b, off, none⟩ : Addr).add j) = some u := fun j u h => keep hb0 (hs j u h)
  have HS := Lib.hid hs'; have HB := Lib.hid hb0; clear hs hs' hb0
  have hlen := rowL_len 6 f n
  have HL := Lib.hid hlen; clear hlen
  go_wp2_with (at_builtin; refine wpList_append_own_at _ rfl (.tmp 5) (.tmp 6) 62 rfl w.heap.size 70 i0 _ 6 48 Try.underlying62 hi hz0 hz1 hz2 rfl (by decide) (.slice (some ⟨w.heap.size, 0, none⟩) 0 0) 0 [] rfl (World.ownsRow_made w #[] 0 (Nat.le_refl _) (by decide) rfl) ⟨b, off, none⟩ n cap (rowL 6 f n) rfl HL.out HS.out rowL_one (by unfold maxLen; omega) (by omega) (by simp) ?_; intro v1 w1 hown1 hg1 hnil1 hat1)
  go_ret
  refine ⟨v1, rfl, ?_, ?_⟩
  · have := hown1; rw [Nat.zero_add, List.nil_append] at this; exact this
  · exact HB.out.grown hg1 HB.out.size (fun k hk => by simp [Value.ownBlock] at hk; omega)
/-- The numbers of a tube, by places. -/
def tf (T X Y H R B : Nat → Int) : Nat → Nat → Int := fun i j => if j = 0 then T i else if j = 1 then X i else if j = 2 then Y i else if j = 3 then H i else if j = 4 then R i else B i
theorem tf_src {w : World} {n b off : Nat} {T X Y H R B : Nat → Int} (h : ∀ k, k < n → S6 w b (off + k * 6) (T k) (X k) (Y k) (H k) (R k) (B k)) : ∀ i, i < n → ∀ j, j < 6 → w.cell? ⟨b, off + i * 6 + j, none⟩ = some (.int .i64 (tf T X Y H R B i j)) := by
  intro i hi j hj
  have hh := h i hi
  rcases (show j = 0 ∨ j = 1 ∨ j = 2 ∨ j = 3 ∨ j = 4 ∨ j = 5 from by omega) with rfl | rfl | rfl | rfl | rfl | rfl
  · exact hh.1.1
  · exact hh.1.2.1
  · exact hh.1.2.2
  · exact hh.2.1
  · exact hh.2.2.1
  · exact hh.2.2.2
theorem tf_tv {w : World} {g n cap : Nat} {T X Y H R B : Nat → Int} (h0 : 0 < n) (hc : n ≤ cap) (hm : cap ≤ maxLen) (h : RowAt w g n 6 (tf T X Y H R B)) : TV w (.slice (some ⟨g, 0, none⟩) n cap) n T X Y H R B := by
  refine Or.inr ⟨h0, g, 0, cap, rfl, hc, hm, fun k hk => ?_⟩
  have c0 := h.cell k hk 0 (by omega); have c1 := h.cell k hk 1 (by omega); have c2 := h.cell k hk 2 (by omega); have c3 := h.cell k hk 3 (by omega); have c4 := h.cell k hk 4 (by omega); have c5 := h.cell k hk 5 (by omega)
  rw [Nat.add_zero] at c0
  unfold S6
  simp only [Nat.zero_add]
  exact ⟨⟨c0, c1, c2⟩, c3, c4, c5⟩
/-- The first i rows are those of f', the others those of f. -/
def mix (f f' : Nat → Nat → Int) (i : Nat) : Nat → Nat → Int := fun a b => if a < i then f' a b else f a b
theorem mix_zero (f f' : Nat → Nat → Int) : mix f f' 0 = f := by funext a b; unfold mix; rw [if_neg (by omega)]
theorem mix_at (f f' : Nat → Nat → Int) (i j : Nat) : mix f f' i i j = f i j := by unfold mix; rw [if_neg (by omega)]
theorem row_congr {w : World} {g n C : Nat} {f f' : Nat → Nat → Int} (h : RowAt w g n C f) (e : ∀ i, i < n → ∀ j, j < C → f i j = f' i j) : RowAt w g n C f' := ⟨fun i hi j hj => by rw [← e i hi j hj]; exact h.cell i hi j hj, h.free⟩
theorem mix_full {w : World} {g n C : Nat} {f f' : Nat → Nat → Int} (h : RowAt w g n C (mix f f' n)) : RowAt w g n C f' := row_congr h fun i hi j _ => by unfold mix; rw [if_pos hi]
/-- Row i of the others becomes one of the first. -/
theorem mix_step {w : World} {g n C : Nat} {f f' h : Nat → Nat → Int} {i : Nat} (hr : RowAt w g n C h) (e1 : ∀ a, a ≠ i → ∀ b, h a b = mix f f' i a b) (e2 : ∀ b, b < C → h i b = f' i b) : RowAt w g n C (mix f f' (i + 1)) := by
  refine row_congr hr fun a _ b hb => ?_
  by_cases ha : a = i
  · subst ha; rw [e2 b hb]; unfold mix; rw [if_pos (by omega)]
  · rw [e1 a ha b]; unfold mix
    by_cases hl : a < i
    · rw [if_pos hl, if_pos (by omega)]
    · rw [if_neg hl, if_neg (by omega)]
theorem upd_ne (f : Nat → Nat → Int) {i j a b : Nat} (x : Int) (h : a ≠ i ∨ b ≠ j) : upd f i j x a b = f a b := if_neg (by omega)
theorem upd_eq (f : Nat → Nat → Int) (i j : Nat) (x : Int) : upd f i j x i j = x := if_pos ⟨rfl, rfl⟩
theorem p2_farb {w : World} {b g : Nat} {x y : Int} (o : Nat) (u : Value) (hne : g ≠ b) (h : P2 w b x y) : P2 (w.setCell ⟨g, o, none⟩ u) b x y := p2_far _ _ hne h
-- SHIFT
/-- By how much a tube can be moved. -/
def shOk (bx by' later : Int) : Prop := -2000000 ≤ bx ∧ bx ≤ 2000000 ∧ -2000000 ≤ by' ∧ by' ≤ 2000000 ∧ -200000 ≤ later ∧ later ≤ 200000
-- WIDEN
/-- By how much a tube can be widened. -/
def wdOk (r d : Int) : Prop := 0 ≤ r ∧ r ≤ 1000000 ∧ 0 ≤ d ∧ d ≤ 60000
end Tube
end Go.Proofs.Yteaccanhahmclaa
