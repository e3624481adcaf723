/- skywaytop.h05Works, walked over what its callees answer. -/
import Derived.Test.YtmkglhoahdlogaaGreatDoorJ09
import Derived.Test.YtmkglhoahdlogaaGreatDoorKind
import Derived.Test.YtmkglhoahdlogaaGreatDoorJ08
import Derived.Test.YtmkglhoahdlogaaGreatDoorPath
import Derived.Deep.RegionHeld3
namespace Go.Proofs.YtmkglhoahdlogaaGreatDoor
open Go.RowKit
namespace Top
open Kit Plane Chart
set_option maxRecDepth 100000 in
set_option maxHeartbeats 8000000 in
theorem works_go {w : World} (T' X' Y' H' : Nat → Int) (bd : Int) (G : World → Value → Prop) (C : World → Value → Prop) (hl : T' 4 = 200)
    (CK : ∀ w1 w2 v, Below w1.heap.size w1 w2 → C w1 v → C w2 v)
    (CH : Hid (∀ w1, Below w.heap.size w w1 → Calls Tryz.prog 10 #[] w1 fun e w' => (∃ b, e = .returned (.agg #[.slice (some ⟨b + 1, 0, none⟩) 3 3, .slice (some ⟨b + 1 + 1 + 1, 0, none⟩) 1 1]) ∧ C w' (.agg #[.slice (some ⟨b + 1, 0, none⟩) 3 3, .slice (some ⟨b + 1 + 1 + 1, 0, none⟩) 1 1])) ∧ Below w1.heap.size w1 w'))
    (KD : Hid (∀ w1, Calls Tryz.prog 11 #[] w1 fun e w' => e = .returned (.agg #[.string ⟨#[65, 51, 50, 48]⟩, .int .i64 1, .int .i64 39000, .int .i64 40, .int .i64 50, .int .i64 70, .int .i64 250]) ∧ Below w1.heap.size w1 w'))
    (TB : Hid (∀ w1 (b : Nat) c, Below w.heap.size w w1 → w1.cell? ⟨b, 0, none⟩ = some (.string ⟨#[85, 76, 49]⟩) → C w1 c → Calls Tryz.prog 9 #[Plan.plan ⟨#[66, 65, 49, 50]⟩ ⟨#[65, 51, 50, 48]⟩ ⟨#[65]⟩ ⟨#[67]⟩ 100 100 1000 (.slice (some ⟨b, 0, none⟩) 1 1), c, .agg #[.string ⟨#[65, 51, 50, 48]⟩, .int .i64 1, .int .i64 39000, .int .i64 40, .int .i64 50, .int .i64 70, .int .i64 250], .slice none 0 0, .int .i64 500, .int .i64 60, .int .i64 100] w1 fun e w' =>
      (∃ v1 v2, e = .returned (.tuple #[v1, v2, .int .i64 0]) ∧ Path.PV w' v1 5 T' X' Y' H' ∧ G w' v2) ∧ Below w1.heap.size w1 w'))
    (GK : ∀ w1 w2 v, Below w1.heap.size w1 w2 → G w1 v → G w2 v)
    (GS : ∀ w1 v, G w1 v → ∃ A c, v = .slice A 5 c)
    (AT : Hid (∀ w1 v, G w1 v → Calls Tryz.prog 12 #[v, .int .i64 150] w1 fun e w' => e = .returned (.tuple #[.agg #[.int .i64 150, .int .i64 3000, .int .i64 4000, .int .i64 1000, .int .i64 550, .int .i64 bd], .int .i64 0]) ∧ Below w1.heap.size w1 w')) :
    Calls Tryz.prog 4 #[] w fun e w' => e = .returned (.bool true) ∧ Below w.heap.size w w' := by
  have n8 := Plan.n8_new (w.alloc (.cells #[.string ⟨#[85, 76, 49]⟩] 9)) 24 ⟨#[66, 65, 49, 50]⟩ ⟨#[65, 51, 50, 48]⟩ ⟨#[65]⟩ ⟨#[67]⟩ 100 100 1000 (.slice (some ⟨w.heap.size, 0, none⟩) 1 1)
  rw [World.size_alloc] at n8
  have N0 := Lib.hid n8
  have B1 := b_alloc (Below.refl w.heap.size w) (.cells #[.string ⟨#[85, 76, 49]⟩] 9)
  have B2 := b_alloc B1 (.cells #[.string ⟨#[66, 65, 49, 50]⟩, .string ⟨#[65, 51, 50, 48]⟩, .string ⟨#[65]⟩, .string ⟨#[67]⟩, .int .i64 100, .int .i64 100, .int .i64 1000, .slice (some ⟨w.heap.size, 0, none⟩) 1 1] 24)
  have W2 := Lib.hid B2
  have s0 : (w.alloc (.cells #[.string ⟨#[85, 76, 49]⟩] 9)).cell? ⟨w.heap.size, 0, none⟩ = some (.string ⟨#[85, 76, 49]⟩) := by simp
  have S2 := Lib.hid (keep (b_alloc (Below.refl _ _) (.cells #[.string ⟨#[66, 65, 49, 50]⟩, .string ⟨#[65, 51, 50, 48]⟩, .string ⟨#[65]⟩, .string ⟨#[67]⟩, .int .i64 100, .int .i64 100, .int .i64 1000, .slice (some ⟨w.heap.size, 0, none⟩) 1 1] 24)) s0)
  clear B1 B2 n8 s0
  go_enter Tryz.func4, Tryz.ntmps4
  go_wp2_with fail
  obtain ⟨b0, hb0⟩ : ∃ b0, b0 = w.heap.size := ⟨_, rfl⟩
  rw [← hb0] at N0 S2 ⊢
  have W2' : Hid (Below w.heap.size w ((w.alloc (.cells #[.string ⟨#[85, 76, 49]⟩] 9)).alloc (.cells #[.string ⟨#[66, 65, 49, 50]⟩, .string ⟨#[65, 51, 50, 48]⟩, .string ⟨#[65]⟩, .string ⟨#[67]⟩, .int .i64 100, .int .i64 100, .int .i64 1000, .slice (some ⟨b0, 0, none⟩) 1 1] 24))) := by rw [hb0]; exact W2
  clear hb0 W2
  generalize (w.alloc (.cells #[.string ⟨#[85, 76, 49]⟩] 9)).alloc (.cells #[.string ⟨#[66, 65, 49, 50]⟩, .string ⟨#[65, 51, 50, 48]⟩, .string ⟨#[65]⟩, .string ⟨#[67]⟩, .int .i64 100, .int .i64 100, .int .i64 1000, .slice (some ⟨b0, 0, none⟩) 1 1] 24) = w2 at *
  have TB2 := Lib.hid (fun w1 c (hb : Below w2.heap.size w2 w1) (hc : C w1 c) => TB.out w1 b0 c (b_next W2'.out hb) (keep hb S2.out) hc)
  have CH2 := Lib.hid (fun w1 (hb : Below w2.heap.size w2 w1) => CH.out w1 (b_next W2'.out hb))
  obtain ⟨x0, x1, x2, x3, x4, x5, x6, x7⟩ := N0.out
  have KP : Hid (∀ w', Below w2.heap.size w2 w' → (w'.cell? ⟨b0 + 1, 0, none⟩ = some (.string ⟨#[66, 65, 49, 50]⟩) ∧ w'.cell? ⟨b0 + 1, 1, none⟩ = some (.string ⟨#[65, 51, 50, 48]⟩) ∧ w'.cell? ⟨b0 + 1, 2, none⟩ = some (.string ⟨#[65]⟩) ∧ w'.cell? ⟨b0 + 1, 3, none⟩ = some (.string ⟨#[67]⟩) ∧ w'.cell? ⟨b0 + 1, 4, none⟩ = some (.int .i64 100) ∧ w'.cell? ⟨b0 + 1, 5, none⟩ = some (.int .i64 100) ∧ w'.cell? ⟨b0 + 1, 6, none⟩ = some (.int .i64 1000) ∧ w'.cell? ⟨b0 + 1, 7, none⟩ = some (.slice (some ⟨b0, 0, none⟩) 1 1) ∧ Below w2.heap.size w2 w')) := Lib.hid fun w' hb => ⟨keep hb x0, keep hb x1, keep hb x2, keep hb x3, keep hb x4, keep hb x5, keep hb x6, keep hb x7, hb⟩
  clear N0 S2 TB CH x0 x1 x2 x3 x4 x5 x6 x7
  go_region_held3 (fun w' => w'.cell? ⟨b0 + 1, 0, none⟩ = some (.string ⟨#[66, 65, 49, 50]⟩) ∧ w'.cell? ⟨b0 + 1, 1, none⟩ = some (.string ⟨#[65, 51, 50, 48]⟩) ∧ w'.cell? ⟨b0 + 1, 2, none⟩ = some (.string ⟨#[65]⟩) ∧ w'.cell? ⟨b0 + 1, 3, none⟩ = some (.string ⟨#[67]⟩) ∧ w'.cell? ⟨b0 + 1, 4, none⟩ = some (.int .i64 100) ∧ w'.cell? ⟨b0 + 1, 5, none⟩ = some (.int .i64 100) ∧ w'.cell? ⟨b0 + 1, 6, none⟩ = some (.int .i64 1000) ∧ w'.cell? ⟨b0 + 1, 7, none⟩ = some (.slice (some ⟨b0, 0, none⟩) 1 1) ∧ Below w2.heap.size w2 w')
    (first
      | exact KP.out _ (b_drew (Below.refl _ _))
      | exact KP.out _ hbt
      | exact KP.out _ hbk
      | exact KP.out _ hbc
      | assumption)
    ((first
      | (go_at_call 10; refine (CH2.out _ (by first | exact hbk | exact b_drew (Below.refl _ _))).mono ?_; rintro e wc ⟨⟨bc, rfl, hcv⟩, hbcq⟩; first | have hbc := b_next hbk hbcq | have hbc := b_next (b_drew (Below.refl w2.heap.size w2)) hbcq)
      | (go_at_call 11; refine (KD.out _).mono ?_; rintro e wk ⟨rfl, hbkq⟩; first | have hbk := b_next hbc hbkq | have hbk := b_next (b_drew (Below.refl w2.heap.size w2)) hbkq)
      | (go_at_call 9; refine (TB2.out _ _ (by first | exact hbk | exact hbc) (by first | exact hcv | exact CK _ _ _ hbkq hcv)).mono ?_; rintro e wt ⟨⟨v1, v2, rfl, hp, hg⟩, hbtq⟩; first | have hbt := b_next hbk hbtq | have hbt := b_next hbc hbtq)))
  obtain ⟨A2, c2, rfl⟩ := GS _ _ hg
  rcases hp with ⟨h0, -⟩ | ⟨-, b, off, cap, rfl, h1, h2, h3⟩
  · exact absurd h0 (by decide)
  have x := (h3 4 (by decide)).1.1
  rw [hl] at x
  have X := Lib.hid x
  have hcap9 : cap ≤ 9223372036854775807 := Nat.le_trans h2 (by decide)
  have W3 := Lib.hid (b_next W2'.out hbt)
  have AT2 := Lib.hid (fun w1 (hb : Below wt.heap.size wt w1) => AT.out w1 _ (GK _ _ _ hb hg))
  clear h1 h2 h3 hg hbt hbc hbk hbtq hbcq hbkq x
  go_wp2_with fail
  (with_reducible refine (AT2.out _ (Below.refl _ _)).mono ?_); rintro e w4 ⟨rfl, hb4⟩
  have W4 := Lib.hid (b_next W3.out hb4)
  have x : w4.cell? ⟨b, off + 16, none⟩ = some (.int .i64 200) := keep hb4 X.out
  have x := keep (b_alloc (Below.refl _ _) (.cells #[.int .i64 150, .int .i64 3000, .int .i64 4000, .int .i64 1000, .int .i64 550, .int .i64 bd] 57)) x
  have W5 := Lib.hid (b_alloc W4.out (.cells #[.int .i64 150, .int .i64 3000, .int .i64 4000, .int .i64 1000, .int .i64 550, .int .i64 bd] 57))
  clear hb4
  go_wp2_with fail
  go_ret
  exact ⟨by first | rfl | exact retb rfl, W5.out⟩
end Top
end Go.Proofs.YtmkglhoahdlogaaGreatDoor
