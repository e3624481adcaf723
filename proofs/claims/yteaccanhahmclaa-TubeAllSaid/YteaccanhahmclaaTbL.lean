/- long: where it says no, the tubes are short. -/
import Derived.Test.YteaccanhahmclaaTubeL
namespace Go.Proofs.Yteaccanhahmclaa
open Go.RowKit
namespace Tube
open Kit Plane
set_option maxRecDepth 100000 in
set_option maxHeartbeats 4000000 in
theorem long_lt (b m c : Nat) (vs : Nat → Value) (N : Nat → Nat) (w : World) (h0 : m ≤ c) (hm : c ≤ 9223372036854775807) (HV : Hid (∀ k, k < m → w.cell? ⟨b, k, none⟩ = some (vs k) ∧ ∃ T X Y H R B, TV w (vs k) (N k) T X Y H R B)) :
    Calls Try.prog 33 #[.slice (some ⟨b, 0, none⟩) m c] w fun e w' => (e = .returned (.bool true) ∨ (e = .returned (.bool false) ∧ ∀ k, k < m → N k ≤ 12)) ∧ Below w.heap.size w w' := by
  go_enter Try.func33, Try.ntmps33
  go_wp2_with fail
  go_loopw [7] (fun s wr => ∃ k : Nat, k ≤ m ∧ s = .int .i64 k ∧ (∀ j, j < k → N j ≤ 12) ∧ Below w.heap.size w wr) (fun s _ => m - (intOf s).toNat)
  case atStart => exact ⟨0, Nat.zero_le _, rfl, fun j hj => absurd hj (Nat.not_lt_zero j), Below.refl _ _⟩
  case round =>
    obtain ⟨k, hk, rfl, hno, hbl⟩ := hrel
    have NO := Lib.hid hno; clear hno
    by_cases hlt : k < m
    · have hl : (k : Int) < (m : Int) := by omega
      obtain ⟨hcell, T, X, Y, H, R, B, htv⟩ := HV.out k hlt
      have NL : Hid (N k ≤ 12 → ∀ j, j < k + 1 → N j ≤ 12) := Lib.hid fun h j hj => by
        rcases Nat.lt_or_ge j k with hl | hl
        · exact NO.out j hl
        · rw [show j = k by omega]; exact h
      generalize N k = n at *
      have hcell := keep hbl hcell
      have htv := tv_keep hbl htv
      obtain ⟨A, cap, hv, hnc, hcap⟩ := tv_slice htv
      rw [hv] at hcell htv
      have hcap' : cap ≤ 9223372036854775807 := Nat.le_trans hcap (by decide)
      clear hv hcap
      have HTV := Lib.hid htv; have HB := Lib.hid hbl; clear htv hbl
      by_cases d1 : 12 < (n : Int)
      · have e1 := decide_eq_true d1
        go_wp2_with fail
        refine d_region (by kernel_rfl) (by kernel_rfl) ?_
        repeat
          first
            | (refine d_plain (by with_reducible rfl) ?_; apply Exists.intro; refine ⟨fun wq hc hq => ?_, ?_⟩)
            | (refine d_on (by with_reducible rfl) (by rfl) (by with_reducible rfl) ?_; apply Exists.intro; refine ⟨fun wq hc hq => ?_, ?_⟩)
            | (refine d_off (by with_reducible rfl) (by rfl) (by rfl) ?_)
            | (refine d_void (by with_reducible rfl) (by rfl) ?_)
          try any_goals
            (have q0 := keep (cls hq) hcell; clear hc
             go_simp
             first
               | rfl)
          simp only [Act.put, List.setIfInBounds_toArray, List.set_cons_zero, List.set_cons_succ]
        refine d_nil ?_
        intro w1 hb1
        go_wp2_with fail
        go_ret
        exact ⟨Or.inl rfl, b_next HB.out hb1⟩
      · have e1 := decide_eq_false d1
        by_cases d2 : 0 < (n : Int)
        · have e2 := decide_eq_true d2
          have hn0 : 0 < n := by omega
          have e2' : decide (0 < n) = true := decide_eq_true hn0
          have hr : ∃ b' off, A = some ⟨b', off, none⟩ ∧ ∀ k, k < n → S6 wr b' (off + k * 6) (T k) (X k) (Y k) (H k) (R k) (B k) := by
            rcases HTV.out with ⟨h, -⟩ | ⟨-, b', off, cap', he, -, -, h3⟩
            · omega
            · injection he with h4; exact ⟨b', off, h4, h3⟩
          obtain ⟨b', off, rfl, h3⟩ := hr
          have E0 := Lib.hid (h3 0 (by omega)); have E1 := Lib.hid (h3 (n - 1) (by omega)); clear h3
          have u1 : IntKind.i64.wrap ((n : Int) - 1) = ((n - 1 : Nat) : Int) := by rw [IntWalk.i64_in _ (by omega)]; omega
          have u2 : ((n - 1 : Nat) : Int) < (n : Int) := by omega
          go_wp2_with fail
          refine d_region (by kernel_rfl) (by kernel_rfl) ?_
          repeat
            first
              | (refine d_plain (by with_reducible rfl) ?_; apply Exists.intro; refine ⟨fun wq hc hq => ?_, ?_⟩)
              | (refine d_on (by with_reducible rfl) (by rfl) (by with_reducible rfl) ?_; apply Exists.intro; refine ⟨fun wq hc hq => ?_, ?_⟩)
              | (refine d_off (by with_reducible rfl) (by rfl) (by rfl) ?_)
              | (refine d_void (by with_reducible rfl) (by rfl) ?_)
            try any_goals
              (have q0 := s6_keep (cls hq) E0.out; have q1 := s6_keep (cls hq) E1.out; rw [Nat.zero_mul, Nat.add_zero] at q0; clear hc
               go_simp
               first
                 | rfl)
            simp only [Act.put, List.setIfInBounds_toArray, List.set_cons_zero, List.set_cons_succ]
          refine d_nil ?_
          intro w1 hb1
          have HB1 := Lib.hid (b_next HB.out hb1); clear hb1
          by_cases d3 : 1500 < IntKind.i64.wrap (T (n - 1) - T 0)
          · have e3 := decide_eq_true d3
            go_wp2_with fail
            go_ret
            exact ⟨Or.inl rfl, HB1.out⟩
          · have e3 := decide_eq_false d3
            go_wp2_with fail
            exact ⟨⟨k + 1, by omega, by go_num, NL.out (by omega), HB1.out⟩, by simp [intOf]; omega⟩
        · have e2 := decide_eq_false d2
          have e2' : decide (0 < n) = false := decide_eq_false (by omega)
          go_wp2_with fail
          refine d_region (by kernel_rfl) (by kernel_rfl) ?_
          repeat
            first
              | (refine d_plain (by with_reducible rfl) ?_; apply Exists.intro; refine ⟨fun wq hc hq => ?_, ?_⟩)
              | (refine d_on (by with_reducible rfl) (by rfl) (by with_reducible rfl) ?_; apply Exists.intro; refine ⟨fun wq hc hq => ?_, ?_⟩)
              | (refine d_off (by with_reducible rfl) (by rfl) (by rfl) ?_)
              | (refine d_void (by with_reducible rfl) (by rfl) ?_)
            try any_goals
              (have q0 := keep (cls hq) hcell; clear hc
               go_simp
               first
                 | rfl)
            simp only [Act.put, List.setIfInBounds_toArray, List.set_cons_zero, List.set_cons_succ]
          refine d_nil ?_
          intro w1 hb1
          have HB1 := Lib.hid (b_next HB.out hb1); clear hb1
          go_wp2_with fail
          exact ⟨⟨k + 1, by omega, by go_num, NL.out (by omega), HB1.out⟩, by simp [intOf]; omega⟩
    · have hl : ¬ (k : Int) < (m : Int) := by omega
      go_wp2_with fail
      go_ret
      exact ⟨Or.inr ⟨rfl, fun j hj => NO.out j (by omega)⟩, hbl⟩
end Tube
end Go.Proofs.Yteaccanhahmclaa
