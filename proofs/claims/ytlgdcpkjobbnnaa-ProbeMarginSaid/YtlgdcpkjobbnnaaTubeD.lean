/- tube.Shift and tube.Widen: what they return. -/
import Derived.Test.YtlgdcpkjobbnnaaTubeQ
import Derived.Test.YtlgdcpkjobbnnaaTail
namespace Go.Proofs.Ytlgdcpkjobbnnaa
open Go.RowKit
namespace Tube
open Kit Plane
theorem info_tube : (Try.prog.info? 71).map (fun i => (i.zero, i.size, i.bytes)) = some (some (.agg #[.int .i64 0, .int .i64 0, .int .i64 0, .int .i64 0, .int .i64 0, .int .i64 0]), 6, 48) := by kernel_rfl
set_option maxRecDepth 100000 in
set_option maxHeartbeats 1000000 in
theorem clone_tube (n cap b off : Nat) (f : Nat → Nat → Int) (w : World) (h0 : 0 < n) (hn : n ≤ 1000) (_hc : n ≤ cap) (HV : Hid (∀ i, i < n → ∀ j, j < 6 → w.cell? ⟨b, off + i * 6 + j, none⟩ = some (.int .i64 (f i j)))) :
    Calls Try.prog 73 #[.slice (some ⟨b, off, none⟩) n cap] w fun e w' => ∃ v, e = .returned v ∧ Own w' w.heap.size 71 6 v n f ∧ Below w.heap.size w w' := by
  obtain ⟨i0, hi, hz0, hz1, hz2⟩ := info_parts info_tube
  have hnil := fun W : World => Lib.run_eql_slice_nil (P := Try.prog) W 59 71 (some ⟨b, off, none⟩) n cap 0 0 Try.underlying59
  go_enter Try.func73, Try.ntmps73
  have hs := src_rows HV.out
  have hb0 := b_alloc (Below.refl w.heap.size w) (.cells #[] 71)
  have hs' : ∀ j u, (rowL 6 f n)[j]? = some u → (w.alloc (.cells #[] 71)).cell? ((⟨b, off, none⟩ : Addr).add j) = some u := fun j u h => keep hb0 (hs j u h)
  have HS := Lib.hid hs'; have HB := Lib.hid hb0; clear hs hs' hb0
  have hlen := rowL_len 6 f n
  have HL := Lib.hid hlen; clear hlen
  go_wp2_with (at_builtin; refine wpList_append_own_at _ rfl (.tmp 5) (.tmp 6) 59 rfl w.heap.size 71 i0 _ 6 48 Try.underlying59 hi hz0 hz1 hz2 rfl (by decide) (.slice (some ⟨w.heap.size, 0, none⟩) 0 0) 0 [] rfl (World.ownsRow_made w #[] 0 (Nat.le_refl _) (by decide) rfl) ⟨b, off, none⟩ n cap (rowL 6 f n) rfl HL.out HS.out rowL_one (by unfold maxLen; omega) (by omega) (by simp) ?_; intro v1 w1 hown1 hg1 hnil1 hat1)
  go_ret
  refine ⟨v1, rfl, ?_, ?_⟩
  · have := hown1; rw [Nat.zero_add, List.nil_append] at this; exact this
  · exact HB.out.grown hg1 HB.out.size (fun k hk => by simp [Value.ownBlock] at hk; omega)
/-- The numbers of a tube, by places. -/
def tf (T X Y H R B : Nat → Int) : Nat → Nat → Int := fun i j => if j = 0 then T i else if j = 1 then X i else if j = 2 then Y i else if j = 3 then H i else if j = 4 then R i else B i
theorem tf_src {w : World} {n b off : Nat} {T X Y H R B : Nat → Int} (h : ∀ k, k < n → S6 w b (off + k * 6) (T k) (X k) (Y k) (H k) (R k) (B k)) : ∀ i, i < n → ∀ j, j < 6 → w.cell? ⟨b, off + i * 6 + j, none⟩ = some (.int .i64 (tf T X Y H R B i j)) := by
  intro i hi j hj
  have hh := h i hi
  rcases (show j = 0 ∨ j = 1 ∨ j = 2 ∨ j = 3 ∨ j = 4 ∨ j = 5 from by omega) with rfl | rfl | rfl | rfl | rfl | rfl
  · exact hh.1.1
  · exact hh.1.2.1
  · exact hh.1.2.2
  · exact hh.2.1
  · exact hh.2.2.1
  · exact hh.2.2.2
theorem tf_tv {w : World} {g n cap : Nat} {T X Y H R B : Nat → Int} (h0 : 0 < n) (hc : n ≤ cap) (hm : cap ≤ maxLen) (h : RowAt w g n 6 (tf T X Y H R B)) : TV w (.slice (some ⟨g, 0, none⟩) n cap) n T X Y H R B := by
  refine Or.inr ⟨h0, g, 0, cap, rfl, hc, hm, fun k hk => ?_⟩
  have c0 := h.cell k hk 0 (by omega); have c1 := h.cell k hk 1 (by omega); have c2 := h.cell k hk 2 (by omega); have c3 := h.cell k hk 3 (by omega); have c4 := h.cell k hk 4 (by omega); have c5 := h.cell k hk 5 (by omega)
  rw [Nat.add_zero] at c0
  unfold S6
  simp only [Nat.zero_add]
  exact ⟨⟨c0, c1, c2⟩, c3, c4, c5⟩
/-- The first i rows are those of f', the others those of f. -/
def mix (f f' : Nat → Nat → Int) (i : Nat) : Nat → Nat → Int := fun a b => if a < i then f' a b else f a b
theorem mix_zero (f f' : Nat → Nat → Int) : mix f f' 0 = f := by funext a b; unfold mix; rw [if_neg (by omega)]
theorem mix_at (f f' : Nat → Nat → Int) (i j : Nat) : mix f f' i i j = f i j := by unfold mix; rw [if_neg (by omega)]
theorem row_congr {w : World} {g n C : Nat} {f f' : Nat → Nat → Int} (h : RowAt w g n C f) (e : ∀ i, i < n → ∀ j, j < C → f i j = f' i j) : RowAt w g n C f' := ⟨fun i hi j hj => by rw [← e i hi j hj]; exact h.cell i hi j hj, h.free⟩
theorem mix_full {w : World} {g n C : Nat} {f f' : Nat → Nat → Int} (h : RowAt w g n C (mix f f' n)) : RowAt w g n C f' := row_congr h fun i hi j _ => by unfold mix; rw [if_pos hi]
/-- Row i of the others becomes one of the first. -/
theorem mix_step {w : World} {g n C : Nat} {f f' h : Nat → Nat → Int} {i : Nat} (hr : RowAt w g n C h) (e1 : ∀ a, a ≠ i → ∀ b, h a b = mix f f' i a b) (e2 : ∀ b, b < C → h i b = f' i b) : RowAt w g n C (mix f f' (i + 1)) := by
  refine row_congr hr fun a _ b hb => ?_
  by_cases ha : a = i
  · subst ha; rw [e2 b hb]; unfold mix; rw [if_pos (by omega)]
  · rw [e1 a ha b]; unfold mix
    by_cases hl : a < i
    · rw [if_pos hl, if_pos (by omega)]
    · rw [if_neg hl, if_neg (by omega)]
theorem upd_ne (f : Nat → Nat → Int) {i j a b : Nat} (x : Int) (h : a ≠ i ∨ b ≠ j) : upd f i j x a b = f a b := if_neg (by omega)
theorem upd_eq (f : Nat → Nat → Int) (i j : Nat) (x : Int) : upd f i j x i j = x := if_pos ⟨rfl, rfl⟩
theorem p2_farb {w : World} {b g : Nat} {x y : Int} (o : Nat) (u : Value) (hne : g ≠ b) (h : P2 w b x y) : P2 (w.setCell ⟨g, o, none⟩ u) b x y := p2_far _ _ hne h
-- SHIFT
/-- By how much a tube can be moved. -/
def shOk (bx by' later : Int) : Prop := -2000000 ≤ bx ∧ bx ≤ 2000000 ∧ -2000000 ≤ by' ∧ by' ≤ 2000000 ∧ -200000 ≤ later ∧ later ≤ 200000
-- WIDEN
set_option maxHeartbeats 1000000 in
theorem widen_bad (v : Value) (r d E : Int) (w : World) (C : Hid (CkC v E w)) (_hE1 : (E == 0) = false) (hE2 : (E != 0) = true) :
    Calls Try.prog 39 #[v, .int .i64 r, .int .i64 d] w fun e w' => e = .returned (.tuple #[.slice none 0 0, .int .i64 E]) ∧ Below w.heap.size w w' := by
  go_enter Try.func39, Try.ntmps39
  go_wp2_with fail
  (with_reducible refine (C.out _ (Below.refl _ _)).mono ?_); rintro e w1 ⟨rfl, h⟩
  go_wp2_with fail
  go_ret2
  exact ⟨rfl, h⟩
/-- By how much a tube can be widened. -/
def wdOk (r d : Int) : Prop := 0 ≤ r ∧ r ≤ 1000000 ∧ 0 ≤ d ∧ d ≤ 60000
set_option maxHeartbeats 2000000 in
theorem widen_no (v : Value) (r d : Int) (w : World) (C : Hid (CkC v 0 w)) (hx : ¬ wdOk r d) :
    Calls Try.prog 39 #[v, .int .i64 r, .int .i64 d] w fun e w' => e = .returned (.tuple #[.slice none 0 0, .int .i64 4]) ∧ Below w.heap.size w w' := by
  unfold wdOk at hx
  go_enter Try.func39, Try.ntmps39
  go_wp2_with fail
  (with_reducible refine (C.out _ (Below.refl _ _)).mono ?_); rintro e w1 ⟨rfl, h⟩
  go_wp2_with fail
  all_goals first | (exfalso; omega) | (go_ret2; exact ⟨rfl, h⟩)
set_option maxRecDepth 100000 in
set_option maxHeartbeats 4000000 in
theorem widen_walk (n cap b off : Nat) (T X Y H R B : Nat → Int) (r d E : Int) (w : World) (h0 : 0 < n) (hn : n ≤ 64) (hc : n ≤ cap) (hm : cap ≤ 9223372036854775807) (HV : Hid (∀ k, k < n → S6 w b (off + k * 6) (T k) (X k) (Y k) (H k) (R k) (B k))) (C : Hid (CkC (.slice (some ⟨b, off, none⟩) n cap) 0 w))
    (C2 : Hid (∀ w1 v, TV w1 v n T X Y H (fun k => R k + r) (fun k => B k + d) → Calls Try.prog 69 #[v] w1 fun e w' => e = .returned (.int .i64 E) ∧ Below w1.heap.size w1 w'))
    (HT : Hid (∀ k, k < n → (0 ≤ R k ∧ R k ≤ 1000000) ∧ (0 ≤ B k ∧ B k ≤ 60000))) (hx : wdOk r d) (hE : (E = 0 ∧ (E == 0) = true ∧ (E != 0) = false) ∨ (E ≠ 0 ∧ (E == 0) = false ∧ (E != 0) = true)) :
    Calls Try.prog 39 #[.slice (some ⟨b, off, none⟩) n cap, .int .i64 r, .int .i64 d] w fun e w' =>
      ((E ≠ 0 ∧ e = .returned (.tuple #[.slice none 0 0, .int .i64 4])) ∨ (E = 0 ∧ ∃ g cap', e = .returned (.tuple #[.slice (some ⟨g, 0, none⟩) n cap', .int .i64 0]) ∧ w.heap.size ≤ g ∧ n ≤ cap' ∧ cap' ≤ maxLen ∧ RowAt w' g n 6 (tf T X Y H (fun k => R k + r) (fun k => B k + d)))) ∧ Below w.heap.size w w' := by
  obtain ⟨x1, x2, x3, x4⟩ := hx
  go_enter Try.func39, Try.ntmps39
  go_wp2_with fail
  (with_reducible refine (C.out _ (Below.refl _ _)).mono ?_); rintro e w1 ⟨rfl, hw⟩
  go_wp2_with fail
  have hcl := clone_tube n cap b off (tf T X Y H R B) w1 h0 (by omega) hc (Lib.hid (tf_src fun k hk => s6_keep hw (HV.out k hk)))
  refine hcl.mono ?_
  rintro e w2 ⟨v, rfl, hown, hb⟩
  obtain ⟨g, cap', rfl, hg1, hg2, hnc, hcm, hrow⟩ := own_row hown h0
  have hw2 := b_next hw hb
  have hgw : w.heap.size ≤ g := Nat.le_trans hw.size hg1
  clear hb hown hw
  have hcm' : cap' ≤ 9223372036854775807 := Nat.le_trans hcm (by decide)
  have HR := Lib.hid hrow; have HC := Lib.hid hcm; clear hrow hcm
  obtain ⟨wb, rfl⟩ : ∃ wb : World, wb = w2 := ⟨_, rfl⟩
  go_wp2_with fail
  go_loopw [34] (fun s wr => ∃ i : Nat, i ≤ n ∧ s = .int .i64 i ∧ RowAt wr g n 6 (mix (tf T X Y H R B) (tf T X Y H (fun k => R k + r) (fun k => B k + d)) i) ∧ Below w.heap.size w wr) (fun s _ => n - (intOf s).toNat)
  case atStart => exact ⟨0, Nat.zero_le _, rfl, by rw [mix_zero]; exact HR.out, hw2⟩
  case round =>
    obtain ⟨i, hi, rfl, hr, hbl⟩ := hrel
    have HRR := Lib.hid hr; have HB := Lib.hid hbl; clear hr hbl hw2
    by_cases hlt : i < n
    · have hl : (i : Int) < (n : Int) := by omega
      have ht := HT.out i hlt
      have k1 : wr.cell? ⟨g, i * 6 + 4, none⟩ = some (.int .i64 (R i)) := by rw [HRR.out.cell i hlt 4 (by omega), mix_at]; rfl
      have k2 : wr.cell? ⟨g, i * 6 + 5, none⟩ = some (.int .i64 (B i)) := by rw [HRR.out.cell i hlt 5 (by omega), mix_at]; rfl
      have f1 := HRR.out.free (i * 6 + 4); have f2 := HRR.out.free (i * 6 + 5)
      go_wp2_with fail
      go_roundw
      case rel =>
        have hset := row_set (row_set HRR.out hlt (show 4 < 6 by omega) (R i + r)) hlt (show 5 < 6 by omega) (B i + d)
        refine ⟨i + 1, by omega, by go_num, mix_step hset (fun a ha b => ?_) (fun b hb => ?_), b_set (b_set HB.out hgw _) hgw _⟩
        · rw [upd_ne _ _ (Or.inl ha), upd_ne _ _ (Or.inl ha)]
        · unfold upd tf mix
          rcases (show b = 0 ∨ b = 1 ∨ b = 2 ∨ b = 3 ∨ b = 4 ∨ b = 5 from by omega) with rfl | rfl | rfl | rfl | rfl | rfl <;> simp
      case measure => simp [intOf]; omega
    · have he : i = n := by omega
      have HE := Lib.hid he; clear he
      have hl : ¬ (i : Int) < (n : Int) := by omega
      have C3 := Lib.hid (C2.out wr _ (tf_tv h0 hnc HC.out (mix_full (by have := HRR.out; rw [HE.out] at this; exact this))))
      go_wp2_with fail
      (with_reducible refine C3.out.mono ?_); rintro e w3 ⟨rfl, hb⟩
      have hw3 := b_next HB.out hb
      have hr3 : RowAt w3 g n 6 _ := row_keep hb (show g < _ from lt_of_cell (HRR.out.cell 0 h0 0 (by omega))) (mix_full (by have := HRR.out; rw [HE.out] at this; exact this))
      have HR3 := Lib.hid hr3; clear hr3 hb
      rcases hE with ⟨hE0, e1, e2⟩ | ⟨hE0, e1, e2⟩
      · have HE0 := Lib.hid hE0
        go_wp2_with fail
        go_ret2
        exact ⟨Or.inr ⟨HE0.out, g, cap', rfl, hgw, hnc, HC.out, HR3.out⟩, hw3⟩
      · have HE0 := Lib.hid hE0
        go_wp2_with fail
        go_ret2
        exact ⟨Or.inl ⟨HE0.out, rfl⟩, hw3⟩
end Tube
end Go.Proofs.Ytlgdcpkjobbnnaa
