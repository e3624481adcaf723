/- plantext.Parse: what it returns. -/
import Derived.Test.YtddlacjjanincaaDoorPtS
import Derived.Deep.RegionHeld3
namespace Go.Proofs.YtddlacjjanincaaDoor
open Go.RowKit
namespace Pt
open Kit Chart Route Plan Name
abbrev zp : Value := plan ⟨#[]⟩ ⟨#[]⟩ ⟨#[]⟩ ⟨#[]⟩ 0 0 0 (.slice none 0 0)
abbrev PaC (s : ByteArray) (w : World) (E : Int) : Prop := Calls Tryd.prog 18 #[.string s] w fun e w' => e = .returned (.tuple #[zp, .int .i64 E]) ∧ Below w.heap.size w w'
set_option maxRecDepth 100000 in
set_option maxHeartbeats 2000000 in
theorem parse_long (s : ByteArray) (w : World) (h : 8192 < s.size) : PaC s w 2 := by
  have hi : 8192 < (s.size : Int) := by omega
  have W0 := b_alloc (Below.refl w.heap.size w) (.cells #[.string ⟨#[]⟩, .string ⟨#[]⟩, .string ⟨#[]⟩, .string ⟨#[]⟩, .int .i64 0, .int .i64 0, .int .i64 0, .slice none 0 0] 39)
  go_enter Tryd.func18, Tryd.ntmps18
  go_wp2_with fail
  refine bodyPost_ret (v := .tuple #[zp, .int .i64 2]) (by simp [results, Tryd.results18, go_sem]) rfl ⟨rfl, W0⟩
set_option maxRecDepth 100000 in
set_option maxHeartbeats 2000000 in
theorem parse_few (s : ByteArray) (w : World) (h : ¬ 8192 < s.size) (F : List ByteArray) (hF : F.length < 7) (SP : Hid (∀ w1, Below w.heap.size w w1 → Calls Tryd.prog 25 #[.string s, .string ⟨#[32]⟩] w1 fun e w' => (∃ g, e = .returned (.slice (some ⟨g, 0, none⟩) F.length F.length)) ∧ Below w1.heap.size w1 w')) : PaC s w 5 := by
  have hi : ¬ 8192 < (s.size : Int) := by omega
  have hf : (F.length : Int) < 7 := by omega
  have Z0 := Lib.hid (z8_new w 39 ⟨#[]⟩ ⟨#[]⟩ ⟨#[]⟩ ⟨#[]⟩ 0 0 0 (.slice none 0 0))
  have W0 := Lib.hid (b_alloc (Below.refl w.heap.size w) (.cells #[.string ⟨#[]⟩, .string ⟨#[]⟩, .string ⟨#[]⟩, .string ⟨#[]⟩, .int .i64 0, .int .i64 0, .int .i64 0, .slice none 0 0] 39))
  have SZ0 : Hid (w.heap.size < (w.alloc (.cells #[.string ⟨#[]⟩, .string ⟨#[]⟩, .string ⟨#[]⟩, .string ⟨#[]⟩, .int .i64 0, .int .i64 0, .int .i64 0, .slice none 0 0] 39)).heap.size) := Lib.hid (by simp)
  go_enter Tryd.func18, Tryd.ntmps18
  go_wp2_with fail
  (with_reducible refine (SP.out _ W0.out).mono ?_); rintro e w1 ⟨⟨g, rfl⟩, hb⟩
  have W1 := Lib.hid (b_next W0.out hb); have Z1 := Lib.hid (z8_keep hb Z0.out); clear hb
  obtain ⟨⟨y0, y1, y2, y3, y4, y5, y6, y7⟩, fr⟩ := Z1.out
  have z0 := fr 0; have z1 := fr 1; have z2 := fr 2; have z3 := fr 3; have z4 := fr 4; have z5 := fr 5; have z6 := fr 6; have z7 := fr 7
  clear fr
  go_wp2_with fail
  have Z := (z8_set Z1.out ⟨#[]⟩ ⟨#[]⟩ ⟨#[]⟩ ⟨#[]⟩ 0 0 0 (.slice none 0 0)).n8
  refine bodyPost_ret (v := .tuple #[zp, .int .i64 5]) (by simp [results, Tryd.results18, go_sem, Z.c0, Z.c1, Z.c2, Z.c3, Z.c4, Z.c5, Z.c6, Z.c7]) rfl ⟨rfl, b_set8 W1.out (Nat.le_refl _) _ _ _ _ _ _ _ _⟩
/-- What the loop over the three numbers has done. -/
def ParI (f4 f5 f6 : ByteArray) (k : Nat) (a b c : Int) : Prop := (if 0 < k then NumT.numB f4.data.toList = some a else a = 0) ∧ (if 1 < k then NumT.numB f5.data.toList = some b else b = 0) ∧ (if 2 < k then NumT.numB f6.data.toList = some c else c = 0)
/-- The cells outside of one block are as they were. -/
def FarEq (b : Nat) (W wr : World) : Prop := ∀ a u, a.block ≠ b → W.cell? a = some u → wr.cell? a = some u
theorem far_keep {b : Nat} {W wr w1 : World} (h : FarEq b W wr) (hb : Below wr.heap.size wr w1) : FarEq b W w1 := fun a u ha hc => keep hb (h a u ha hc)
theorem far_set {b : Nat} {W wr : World} (h : FarEq b W wr) (i : Nat) (v : Value) : FarEq b W (wr.setCell ⟨b, i, none⟩ v) := fun a u ha hc => cfar _ (fun e => ha (by rw [← e])) (h a u ha hc)
theorem far_set8 {b : Nat} {W wr : World} (h : FarEq b W wr) (u0 u1 u2 u3 u4 u5 u6 u7 : Value) : FarEq b W ((((((((wr.setCell ⟨b, 0, none⟩ u0).setCell ⟨b, 1, none⟩ u1).setCell ⟨b, 2, none⟩ u2).setCell ⟨b, 3, none⟩ u3).setCell ⟨b, 4, none⟩ u4).setCell ⟨b, 5, none⟩ u5).setCell ⟨b, 6, none⟩ u6).setCell ⟨b, 7, none⟩ u7) :=
  far_set (far_set (far_set (far_set (far_set (far_set (far_set (far_set h _ _) _ _) _ _) _ _) _ _) _ _) _ _) _ _
theorem z8_far {w : World} {b n0 : Nat} (hne : n0 ≠ b) {c k f t : ByteArray} {off sp h : Int} {r : Value} (n : Z8 w n0 c k f t off sp h r) (i : Nat) (v : Value) : Z8 (w.setCell ⟨b, i, none⟩ v) n0 c k f t off sp h r := by
  have q : ∀ j, (⟨b, i, none⟩ : Addr) ≠ ⟨n0, j, none⟩ := fun j e => hne (by injection e with e _; exact e.symm)
  obtain ⟨⟨a0, a1, a2, a3, a4, a5, a6, a7⟩, fr⟩ := n
  exact ⟨⟨cfar _ (q _) a0, cfar _ (q _) a1, cfar _ (q _) a2, cfar _ (q _) a3, cfar _ (q _) a4, cfar _ (q _) a5, cfar _ (q _) a6, cfar _ (q _) a7⟩, fun j => by rw [World.frozen?_setCell]; exact fr j⟩
/-- What plantext.Parse makes of its fields. -/
def PaR (h0 : Nat) (f0 f1 f2 f3 f4 f5 f6 : ByteArray) (L : List ByteArray) (e : Ending) (w' : World) : Prop :=
  (∃ E : Int, E ≠ 0 ∧ e = .returned (.tuple #[zp, .int .i64 E]) ∧ ∀ x y z, NumT.numB f4.data.toList = some x → NumT.numB f5.data.toList = some y → NumT.numB f6.data.toList = some z → planE f0 f1 f2 f3 x y z L.length (rtF L) ≠ 0) ∨
  (∃ x y z v, NumT.numB f4.data.toList = some x ∧ NumT.numB f5.data.toList = some y ∧ NumT.numB f6.data.toList = some z ∧ planE f0 f1 f2 f3 x y z L.length (rtF L) = 0 ∧ e = .returned (.tuple #[plan f0 f1 f2 f3 x y z v, .int .i64 0]) ∧ ∀ W : World, (∀ a u, h0 ≤ a.block → w'.cell? a = some u → W.cell? a = some u) → SL W v L)
end Pt
end Go.Proofs.YtddlacjjanincaaDoor
