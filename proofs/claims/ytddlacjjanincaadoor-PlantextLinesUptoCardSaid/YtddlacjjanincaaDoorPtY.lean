/- skywaykeep1.plantextWorks, from what its callees give. -/
import Derived.Test.YtddlacjjanincaaDoorPtS
import Derived.Test.YtddlacjjanincaaDoorPtX
import Derived.Deep.RegionHeld3
namespace Go.Proofs.YtddlacjjanincaaDoor
open Go.RowKit
namespace Pt
open Kit Chart Route Plan Name
abbrev flP (v : Value) : Value := plan ⟨#[66, 65, 49, 50]⟩ ⟨#[65, 51, 50, 48]⟩ ⟨#[65]⟩ ⟨#[68]⟩ 100 100 1000 v
set_option maxRecDepth 100000 in
set_option maxHeartbeats 4000000 in
theorem works_w (w : World)
    (FL : Hid (∀ w1, Below w.heap.size w w1 → Calls Tryd.prog 30 #[] w1 fun e w' => (∃ v, e = .returned (flP v) ∧ SL w' v fR) ∧ Below w1.heap.size w1 w'))
    (PR : Hid (∀ w1 v, Below w.heap.size w w1 → SL w1 v fR → Calls Tryd.prog 16 #[flP v] w1 fun e w' => e = .returned (.tuple #[.string fT, .int .i64 0]) ∧ Below w1.heap.size w1 w'))
    (PA : Hid (∀ w1, Below w.heap.size w w1 → Calls Tryd.prog 18 #[.string fT] w1 fun e w' => (∃ v, e = .returned (.tuple #[flP v, .int .i64 0]) ∧ SL w' v fR) ∧ Below w1.heap.size w1 w'))
    (SA : Hid (∀ w1 v v', Below w.heap.size w w1 → SL w1 v fR → SL w1 v' fR → Calls Tryd.prog 19 #[flP v, flP v'] w1 fun e w' => e = .returned (.bool true) ∧ Below w1.heap.size w1 w')) :
    Calls Tryd.prog 15 #[] w fun e w' => e = .returned (.bool true) ∧ Below w.heap.size w w' := by
  go_enter Tryd.func15, Tryd.ntmps15
  go_wp2_with fail
  (with_reducible refine (FL.out _ (Below.refl _ _)).mono ?_); rintro e w1 ⟨⟨v, rfl, hv⟩, hb1⟩
  have B1 := Lib.hid hb1; have V1 := Lib.hid hv; clear hb1 hv
  go_wp2_with fail
  (with_reducible refine (PR.out _ _ B1.out V1.out).mono ?_); rintro e w2 ⟨rfl, hb2⟩
  have B2 := Lib.hid (b_next B1.out hb2); clear hb2
  go_wp2_with fail
  (with_reducible refine (PA.out _ B2.out).mono ?_); rintro e w3 ⟨⟨u, rfl, hu⟩, hb3⟩
  have B3 := Lib.hid (b_next B2.out hb3); have U3 := Lib.hid hu; obtain ⟨Au, cu, rfl⟩ := sl_slice hu; clear hb3 hu
  go_wp2_with fail
  have ZP := Lib.hid (z8_new w3 39 ⟨#[66, 65, 49, 50]⟩ ⟨#[65, 51, 50, 48]⟩ ⟨#[65]⟩ ⟨#[68]⟩ 100 100 1000 (.slice Au 2 cu))
  have BP := Lib.hid (b_alloc B3.out (.cells #[.string ⟨#[66, 65, 49, 50]⟩, .string ⟨#[65, 51, 50, 48]⟩, .string ⟨#[65]⟩, .string ⟨#[68]⟩, .int .i64 100, .int .i64 100, .int .i64 1000, .slice Au 2 cu] 39))
  have UP : Hid (SL (w3.alloc (.cells #[.string ⟨#[66, 65, 49, 50]⟩, .string ⟨#[65, 51, 50, 48]⟩, .string ⟨#[65]⟩, .string ⟨#[68]⟩, .int .i64 100, .int .i64 100, .int .i64 1000, .slice Au 2 cu] 39)) (.slice Au 2 cu) fR) := Lib.hid (sl_keep (b_alloc (Below.refl _ _) (.cells #[.string ⟨#[66, 65, 49, 50]⟩, .string ⟨#[65, 51, 50, 48]⟩, .string ⟨#[65]⟩, .string ⟨#[68]⟩, .int .i64 100, .int .i64 100, .int .i64 1000, .slice Au 2 cu] 39)) U3.out)
  obtain ⟨P, hP⟩ : ∃ P, P = w3.alloc (.cells #[.string ⟨#[66, 65, 49, 50]⟩, .string ⟨#[65, 51, 50, 48]⟩, .string ⟨#[65]⟩, .string ⟨#[68]⟩, .int .i64 100, .int .i64 100, .int .i64 1000, .slice Au 2 cu] 39) := ⟨_, rfl⟩
  obtain ⟨b, hb⟩ : ∃ b, b = w3.heap.size := ⟨_, rfl⟩
  rw [← hP, ← hb] at ZP ⊢
  rw [← hP] at BP UP
  clear hP hb
  have KP : Hid (∀ w', Below P.heap.size P w' → (w'.cell? ⟨b, 0, none⟩ = some (.string ⟨#[66, 65, 49, 50]⟩) ∧ w'.cell? ⟨b, 1, none⟩ = some (.string ⟨#[65, 51, 50, 48]⟩) ∧ w'.cell? ⟨b, 2, none⟩ = some (.string ⟨#[65]⟩) ∧ w'.cell? ⟨b, 3, none⟩ = some (.string ⟨#[68]⟩) ∧ w'.cell? ⟨b, 4, none⟩ = some (.int .i64 100) ∧ w'.cell? ⟨b, 5, none⟩ = some (.int .i64 100) ∧ w'.cell? ⟨b, 6, none⟩ = some (.int .i64 1000) ∧ w'.cell? ⟨b, 7, none⟩ = some (.slice Au 2 cu) ∧ Below P.heap.size P w')) := Lib.hid fun w' hb => by
    have q := (z8_keep hb ZP.out).n8
    exact ⟨q.c0, q.c1, q.c2, q.c3, q.c4, q.c5, q.c6, q.c7, hb⟩
  go_region_held3 (fun w' => w'.cell? ⟨b, 0, none⟩ = some (.string ⟨#[66, 65, 49, 50]⟩) ∧ w'.cell? ⟨b, 1, none⟩ = some (.string ⟨#[65, 51, 50, 48]⟩) ∧ w'.cell? ⟨b, 2, none⟩ = some (.string ⟨#[65]⟩) ∧ w'.cell? ⟨b, 3, none⟩ = some (.string ⟨#[68]⟩) ∧ w'.cell? ⟨b, 4, none⟩ = some (.int .i64 100) ∧ w'.cell? ⟨b, 5, none⟩ = some (.int .i64 100) ∧ w'.cell? ⟨b, 6, none⟩ = some (.int .i64 1000) ∧ w'.cell? ⟨b, 7, none⟩ = some (.slice Au 2 cu) ∧ Below P.heap.size P w')
    (with_reducible first | exact KP.out _ (b_drew (Below.refl _ _)) | exact KP.out _ hb8 | exact KP.out _ hb9 | assumption)
    ((first
      | (go_at_call 30; (with_reducible refine (FL.out _ (b_drew BP.out)).mono ?_); rintro e w8 ⟨⟨v8, rfl, hv8⟩, hb8'⟩; have V8 := Lib.hid hv8; clear hv8; have hb8 := b_next (b_drew (Below.refl P.heap.size P)) hb8')
      | (go_at_call 19; (with_reducible refine (SA.out _ _ _ (b_next BP.out hb8) (sl_keep hb8 UP.out) V8.out).mono ?_); rintro e w9 ⟨rfl, hb9'⟩; have hb9 := b_next hb8 hb9')))
  go_wp2_with fail
  go_ret
  exact ⟨rfl, b_next BP.out hb9⟩
end Pt
end Go.Proofs.YtddlacjjanincaaDoor
