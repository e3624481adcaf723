/- The fixed example of chapter 16 is true. -/
import Derived.Test.YteaccanhahmclaaTubeQ
namespace Go.Proofs.Yteaccanhahmclaa
open Go.RowKit
namespace Tube
open Kit Plane Path
set_option maxHeartbeats 600000 in
theorem node (t x y h r d : Int) (w : World) : Calls Try.prog 80 #[.int .i64 t, .int .i64 x, .int .i64 y, .int .i64 h, .int .i64 r, .int .i64 d] w fun e w' => e = .returned (.agg #[.int .i64 t, .int .i64 x, .int .i64 y, .int .i64 h, .int .i64 r, .int .i64 d]) ∧ Below w.heap.size w w' := by
  go_enter Try.func80, Try.ntmps80
  go_wp2_with fail
  refine bodyPost_ret (v := .agg #[.int .i64 t, .int .i64 x, .int .i64 y, .int .i64 h, .int .i64 r, .int .i64 d]) (by simp [results, Try.results80, go_sem]) rfl ⟨rfl, b_alloc (Below.refl _ _) _⟩
def wT (k : Nat) : Int := if k = 0 then 0 else 30
def wX (k : Nat) : Int := if k = 0 then 0 else 300
def w0 (_ : Nat) : Int := 0
def wR (k : Nat) : Int := 100 + wid wT 60 k
def wB (_ : Nat) : Int := 5
theorem works_of (w : World) (b : Nat) (h0 : N4 w b 0 0 0 0 0 0) (h1 : N4 w b 0 1 30 300 0 0) :
    Calls Try.prog 78 #[.slice (some ⟨b, 0, none⟩) 2 2, .int .i64 100, .int .i64 60, .int .i64 5] w fun e w' => ∃ g cap, e = .returned (.tuple #[.slice (some ⟨g, 0, none⟩) 2 cap, .int .i64 0]) ∧ 2 ≤ cap ∧ cap ≤ 9223372036854775807 ∧ TV w' (.slice (some ⟨g, 0, none⟩) 2 cap) 2 wT wX w0 w0 wR wB ∧ S6 w' g 6 30 300 0 0 130 5 ∧ Below w.heap.size w w' := by
  have hv : PV w (.slice (some ⟨b, 0, none⟩) 2 2) 2 wT wX w0 w0 := Or.inr ⟨by omega, b, 0, 2, rfl, by omega, by decide, fun k hk => by
    rcases (show k = 0 ∨ k = 1 from by omega) with rfl | rfl
    · exact h0
    · exact h1⟩
  refine (of_ok hv (r := 100) (g := 60) (d := 5) (by decide)).mono ?_
  rintro e w' ⟨g, cap, rfl, hc, hm, hr, -, hb⟩
  refine ⟨g, cap, rfl, hc, Nat.le_trans hm (by decide), tv_row (by omega) hc hm hr, ?_, hb⟩
  exact ⟨⟨hr.cell 1 (by omega) 0 (by omega), hr.cell 1 (by omega) 1 (by omega), hr.cell 1 (by omega) 2 (by omega)⟩, hr.cell 1 (by omega) 3 (by omega), hr.cell 1 (by omega) 4 (by omega), hr.cell 1 (by omega) 5 (by omega)⟩
theorem works_has {w : World} {v : Value} (hv : TV w v 2 wT wX w0 w0 wR wB) (qy : Int) (r : Bool) (hE : hasE wT wX w0 w0 wR wB 2 15 150 qy 5 = 0) (hB : hasB wT wX w0 w0 wR wB 0 15 150 qy 5 = r) :
    Calls Try.prog 79 #[v, .int .i64 15, .agg #[.int .i64 150, .int .i64 qy], .int .i64 5] w fun e w' => e = .returned (.tuple #[.bool r, .int .i64 0]) ∧ Below w.heap.size w w' := by
  have c := has_ok hv hE (i := 0) ⟨by decide, by decide, by decide⟩
  rw [hB] at c
  exact c
set_option maxRecDepth 100000 in
set_option maxHeartbeats 1000000 in
theorem tubeWorks (w : World) : Calls Try.prog 32 #[] w fun e w' => e = .returned (.bool true) ∧ Below w.heap.size w w' := by
  go_enter Try.func32, Try.ntmps32
  go_wp2_with fail
  (with_reducible refine (works_of _ _ ⟨⟨by simp, by simp⟩, ⟨by simp, by simp⟩⟩ ⟨⟨by simp, by simp⟩, ⟨by simp, by simp⟩⟩).mono ?_); rintro e w1 ⟨g, cap, rfl, hc, hm, hv, hs, hb⟩
  have hw := b_next (b_alloc (Below.refl w.heap.size w) _) hb; clear hb
  have HV := Lib.hid hv; have HS := Lib.hid hs; have HW := Lib.hid hw; clear hv hs hw
  go_wp2_with fail
  (with_reducible refine (works_has HV.out 115 true (by decide) (by decide)).mono ?_); rintro e w2 ⟨rfl, h⟩
  have HV2 := Lib.hid (tv_keep h HV.out); have HS2 := Lib.hid (s6_keep h HS.out); have HW2 := Lib.hid (b_next HW.out h); clear h
  go_wp2_with fail
  (with_reducible refine (works_has HV2.out 116 false (by decide) (by decide)).mono ?_); rintro e w3 ⟨rfl, h⟩
  have S1 := Lib.hid (s6_keep h HS2.out); have HW3 := Lib.hid (b_next HW2.out h); clear h
  have i1 : (1 : Int) < ((2 : Nat) : Int) := by decide
  go_wp2_with fail
  refine d_region (by kernel_rfl) (by kernel_rfl) ?_
  repeat
    first
      | (refine d_plain (by with_reducible rfl) ?_; apply Exists.intro; refine ⟨fun wq hc hq => ?_, ?_⟩)
      | (refine d_on (by with_reducible rfl) (by rfl) (by with_reducible rfl) ?_; apply Exists.intro; refine ⟨fun wq hc hq => ?_, ?_⟩)
      | (refine d_off (by with_reducible rfl) (by rfl) (by rfl) ?_)
      | (refine d_void (by with_reducible rfl) (by rfl) ?_)
    try any_goals
      (have q0 := s6_keep (cls hq) S1.out; clear hc
       go_simp
       first
         | rfl
         | (go_at_call 80; with_reducible exact call_below hq (node _ _ _ _ _ _ _)))
    simp only [Act.put, List.setIfInBounds_toArray, List.set_cons_zero, List.set_cons_succ]
  refine d_nil ?_
  intro w4 hb4
  have hw := b_next HW3.out hb4
  go_wp2_with fail
  go_ret
  exact ⟨retb rfl, hw⟩
end Tube
end Go.Proofs.Yteaccanhahmclaa
