/- aircraft.Text's whole contract; aircraftWorks holds. -/
import Derived.Test.YtddlacjjanincaaDoorAcR
namespace Go.Proofs.YtddlacjjanincaaDoor
open Go.RowKit
namespace Ac
open Kit Name Kind Pt
/-- The text of a type. -/
def ktext (s : ByteArray) (q : Nat) (N : Nat → Int) : ByteArray := acc (s ++ sp1 ++ wkS q) N 5
theorem name_len8 {s : ByteArray} (h : nameB s = true) : s.size ≤ 8 := by
  unfold nameB at h
  exact (of_decide_eq_true h).2.1
theorem wk_len {q : Nat} (h : q < 4) : (wkS q).size ≤ 8 := by
  rcases (show q = 0 ∨ q = 1 ∨ q = 2 ∨ q = 3 by omega) with rfl | rfl | rfl | rfl <;> decide
theorem num_bds {s : ByteArray} {wake : Int} {N : Nat → Int} (h : kE s wake N = 0) : ∀ k, k < 5 → 0 ≤ N k ∧ N k ≤ 60000 := fun k hk => by
  obtain ⟨-, -, a1, a2, a3, a4, a5, -⟩ := kchk_ok h
  rcases (show k = 0 ∨ k = 1 ∨ k = 2 ∨ k = 3 ∨ k = 4 by omega) with rfl | rfl | rfl | rfl | rfl <;> omega
theorem textC {w : World} (V : VarsA w) (s : ByteArray) (q : Nat) (N : Nat → Int) (hE : kE s q N = 0) :
    Calls Tryd.prog 12 #[kv s q N] w fun e w' => e = .returned (.tuple #[.string (ktext s q N), .int .i64 0]) ∧ Below w.heap.size w w' := by
  obtain ⟨hn, hq, -⟩ := kchk_ok hE
  have hq4 : q < 4 := by omega
  exact text_w s (wkS q) q N w hq4 (name_len8 hn) (wk_len hq4) hE (Lib.hid (num_bds hE)) (Lib.hid (V.wk q hq4)) (Lib.hid fun w1 n h0 h1 hb => itoaA (varsA_keep hb V) n (by omega) (by omega))
abbrev jN : Nat → Int := fun k => if k = 0 then 39000 else if k = 1 then 40 else if k = 2 then 50 else if k = 3 then 70 else 250
abbrev jT : ByteArray := ⟨#[65, 51, 50, 48, 32, 77, 69, 68, 73, 85, 77, 32, 51, 57, 48, 48, 48, 32, 52, 48, 32, 53, 48, 32, 55, 48, 32, 50, 53, 48]⟩
abbrev jV : Value := .agg #[.string ⟨#[65, 51, 50, 48]⟩, .int .i64 1, .int .i64 39000, .int .i64 40, .int .i64 50, .int .i64 70, .int .i64 250]
theorem ba_ext {x y : ByteArray} (h : x.data.toList = y.data.toList) : x = y := by
  obtain ⟨⟨a⟩⟩ := x
  obtain ⟨⟨b⟩⟩ := y
  have h : a = b := h
  rw [h]
theorem jet_text : ktext ⟨#[65, 51, 50, 48]⟩ 1 jN = jT := by
  refine ba_ext ?_
  first | kernel_rfl | rfl | decide
theorem jet_kind : kE ⟨#[65, 51, 50, 48]⟩ (1 : Nat) jN = 0 := by decide
theorem jetC (w : World) : Calls Tryd.prog 22 #[] w fun e w' => e = .returned jV ∧ Below w.heap.size w w' := by
  go_enter Tryd.func22, Tryd.ntmps22
  go_wp2_with fail
  refine bodyPost_ret (v := jV) (by simp [results, Tryd.results22, go_sem]) rfl ⟨rfl, b_alloc (Below.refl _ _) _⟩
set_option maxRecDepth 100000 in
set_option maxHeartbeats 2000000 in
theorem works_w (w : World)
    (TX : Hid (∀ w1, Below w.heap.size w w1 → Calls Tryd.prog 12 #[jV] w1 fun e w' => e = .returned (.tuple #[.string jT, .int .i64 0]) ∧ Below w1.heap.size w1 w'))
    (CL : Hid (∀ w1, Below w.heap.size w w1 → Calls Tryd.prog 11 #[jV, .int .i64 0, .int .i64 100] w1 fun e w' => e = .returned (.tuple #[.int .i64 3, .int .i64 0]) ∧ Below w1.heap.size w1 w')) :
    Calls Tryd.prog 9 #[] w fun e w' => e = .returned (.bool true) ∧ Below w.heap.size w w' := by
  have JC := Lib.hid fun w => jetC w
  go_enter Tryd.func9, Tryd.ntmps9
  go_wp2_with fail
  (with_reducible refine (JC.out _).mono ?_); rintro e w1 ⟨rfl, hb⟩
  have B1 := Lib.hid hb; clear hb
  go_wp2_with fail
  (with_reducible refine (TX.out _ B1.out).mono ?_); rintro e w2 ⟨rfl, hb⟩
  have B2 := Lib.hid (b_next B1.out hb); clear hb
  go_wp2_with fail
  (with_reducible refine (JC.out _).mono ?_); rintro e w3 ⟨rfl, hb⟩
  have B3 := Lib.hid (b_next B2.out hb); clear hb
  go_wp2_with fail
  (with_reducible refine (CL.out _ B3.out).mono ?_); rintro e w4 ⟨rfl, hb⟩
  have B4 := Lib.hid (b_next B3.out hb); clear hb
  go_wp2_with fail
  go_ret
  exact ⟨rfl, B4.out⟩
theorem jet_climb : climbK 39000 40 50 0 100 = (3, 0) := by decide
theorem acWorksC {w : World} (V : VarsA w) : Calls Tryd.prog 9 #[] w fun e w' => e = .returned (.bool true) ∧ Below w.heap.size w w' := by
  refine works_w w (Lib.hid fun w1 hb => ?_) (Lib.hid fun w1 hb => ?_)
  · have q := textC (varsA_keep hb V) ⟨#[65, 51, 50, 48]⟩ 1 jN jet_kind
    rw [jet_text] at q
    exact q
  · have q := climb_kind (s := ⟨#[65, 51, 50, 48]⟩) (wake := 1) (ceil := 39000) (climb := 40) (desc := 50) (slow := 70) (fast := 250) jet_kind 0 100 w1
    rw [jet_climb] at q
    exact q
end Ac
end Go.Proofs.YtddlacjjanincaaDoor
