/- Path. -/
import Derived.Test.YtmkglhoahdlogaaGreatDoorJ03
import Derived.Test.YtmkglhoahdlogaaGreatDoorJ01
namespace Go.Proofs.YtmkglhoahdlogaaGreatDoor
open Go.RowKit
namespace Path
open Kit Plane
/-- A path in memory: nil, empty, or n nodes from an address on. -/
def PV (w : World) (v : Value) (n : Nat) (T X Y H : Nat → Int) : Prop :=
  (n = 0 ∧ (v = .slice none 0 0 ∨ ∃ a cap, v = .slice (some a) 0 cap ∧ cap ≤ maxLen)) ∨ (0 < n ∧ ∃ b off cap, v = .slice (some ⟨b, off, none⟩) n cap ∧ n ≤ cap ∧ cap ≤ maxLen ∧ ∀ k, k < n → N4 w b off k (T k) (X k) (Y k) (H k))
theorem pv_keep {W w1 : World} (hb : Below W.heap.size W w1) {v : Value} {n : Nat} {T X Y H : Nat → Int} (h : PV W v n T X Y H) : PV w1 v n T X Y H := by
  rcases h with h | ⟨h0, b, off, cap, hv, h1, h2, h3⟩
  · exact Or.inl h
  · exact Or.inr ⟨h0, b, off, cap, hv, h1, h2, fun k hk => n4_keep hb (h3 k hk)⟩
set_option maxHeartbeats 600000 in
theorem check_large (n cap b off : Nat) (w : World) (hn : 64 < n) (_hc : n ≤ cap) (_hm : cap ≤ 9223372036854775807) :
    Calls Tryz.prog 63 #[.slice (some ⟨b, off, none⟩) n cap] w fun e w' => e = .returned (.int .i64 2) ∧ w = w' := by
  go_enter Tryz.func63, Tryz.ntmps63
  go_wp2
  go_ret
  exact ⟨rfl, rfl⟩
set_option maxHeartbeats 600000 in
theorem check_nil (w : World) :
    Calls Tryz.prog 63 #[.slice none 0 0] w fun e w' => e = .returned (.int .i64 3) ∧ w = w' := by
  go_enter Tryz.func63, Tryz.ntmps63
  go_wp2
  go_ret
  exact ⟨rfl, rfl⟩
set_option maxHeartbeats 600000 in
theorem check_empty (a : Addr) (cap : Nat) (w : World) :
    Calls Tryz.prog 63 #[.slice (some a) 0 cap] w fun e w' => e = .returned (.int .i64 3) ∧ w = w' := by
  go_enter Tryz.func63, Tryz.ntmps63
  go_wp2
  go_ret
  exact ⟨rfl, rfl⟩
set_option maxHeartbeats 2000000 in
theorem check_nodes (n cap b off : Nat) (T X Y H : Nat → Int) (w : World) (h0 : 0 < n) (hn : n ≤ 64) (hc : n ≤ cap) (hm : cap ≤ 9223372036854775807) (HV : Hid (∀ k, k < n → N4 w b off k (T k) (X k) (Y k) (H k))) :
    Calls Tryz.prog 63 #[.slice (some ⟨b, off, none⟩) n cap] w fun e w' => e = .returned (.int .i64 (nchk T X Y H n)) ∧ Below w.heap.size w w' := by
  go_enter Tryz.func63, Tryz.ntmps63
  have hz : ((n : Int) == 0) = false := by simp; omega
  go_wp2
  go_loopw [16] (fun i wr => ∃ k : Nat, k ≤ n ∧ nchk T X Y H k = 0 ∧ i = .int .i64 k ∧ Below w.heap.size w wr) (fun i _ => n - (intOf i).toNat)
  case atStart => exact ⟨0, Nat.zero_le _, rfl, rfl, Below.refl _ _⟩
  case round =>
    obtain ⟨k, hk, hg, rfl, hbl⟩ := hrel
    have HG := Lib.hid hg; clear hg
    by_cases hlt : k < n
    · obtain ⟨⟨c0, c1⟩, c2, c3⟩ := n4_keep hbl (HV.out k hlt)
      by_cases hk0 : 0 < (k : Int)
      · have hpv := n4_keep hbl (HV.out (k - 1) (by omega))
        have hwk : IntKind.i64.wrap ((k : Int) - 1) = ((k - 1 : Nat) : Int) := by rw [IntWalk.i64_in _ (by omega)]; omega
        have hwl : ((k - 1 : Nat) : Int) < (n : Int) := by omega
        have HW := Lib.hid hwl
        by_cases a1 : T k < 0
        · have d1 := decide_eq_true a1
          have HF := Lib.hid (stop (n := n) HG.out hlt (nerr_time (Or.inl a1)) (by omega))
          have hn4 := c4_new wr 55 (T k) (X k) (Y k) (H k)
          have hp4 := n4_keep (b_alloc (Below.refl _ wr) (.cells #[.int .i64 (T k), .int .i64 (X k), .int .i64 (Y k), .int .i64 (H k)] 55)) hpv
          go_wp2_with fail
          refine d_region (by kernel_rfl) (by kernel_rfl) ?_
          repeat
            first
              | (refine d_plain (by with_reducible rfl) ?_; apply Exists.intro; refine ⟨fun wq hc hq => ?_, ?_⟩)
              | (refine d_on (by with_reducible rfl) (by rfl) (by with_reducible rfl) ?_; apply Exists.intro; refine ⟨fun wq hc hq => ?_, ?_⟩)
              | (refine d_off (by with_reducible rfl) (by rfl) (by rfl) ?_)
              | (refine d_void (by with_reducible rfl) (by rfl) ?_)
            try any_goals
              (have q0 := c4_keep hq hn4; have q1 := n4_keep hq hp4; clear hc
               go_simp
               first
                 | rfl)
            simp only [Act.put, List.setIfInBounds_toArray, List.set_cons_zero, List.set_cons_succ]
          refine d_nil ?_
          intro w1 hb1
          go_wp2_with fail
          go_ret
          exact ⟨ret1 (HF.out).symm, b_next (b_alloc hbl _) hb1⟩
        · have d1 := decide_eq_false a1
          by_cases a2 : 200000 < T k
          · have d2 := decide_eq_true a2
            have HF := Lib.hid (stop (n := n) HG.out hlt (nerr_time (Or.inr (Or.inl a2))) (by omega))
            have hn4 := c4_new wr 55 (T k) (X k) (Y k) (H k)
            have hp4 := n4_keep (b_alloc (Below.refl _ wr) (.cells #[.int .i64 (T k), .int .i64 (X k), .int .i64 (Y k), .int .i64 (H k)] 55)) hpv
            go_wp2_with fail
            refine d_region (by kernel_rfl) (by kernel_rfl) ?_
            repeat
              first
                | (refine d_plain (by with_reducible rfl) ?_; apply Exists.intro; refine ⟨fun wq hc hq => ?_, ?_⟩)
                | (refine d_on (by with_reducible rfl) (by rfl) (by with_reducible rfl) ?_; apply Exists.intro; refine ⟨fun wq hc hq => ?_, ?_⟩)
                | (refine d_off (by with_reducible rfl) (by rfl) (by rfl) ?_)
                | (refine d_void (by with_reducible rfl) (by rfl) ?_)
              try any_goals
                (have q0 := c4_keep hq hn4; have q1 := n4_keep hq hp4; clear hc
                 go_simp
                 first
                   | rfl)
              simp only [Act.put, List.setIfInBounds_toArray, List.set_cons_zero, List.set_cons_succ]
            refine d_nil ?_
            intro w1 hb1
            go_wp2_with fail
            go_ret
            exact ⟨ret1 (HF.out).symm, b_next (b_alloc hbl _) hb1⟩
          · have d2 := decide_eq_false a2
            have d0 := decide_eq_true hk0; have d0n : decide (0 < k) = true := decide_eq_true (by omega)
            by_cases a3 : T k ≤ T (k - 1)
            · have d3 := decide_eq_true a3
              have HF := Lib.hid (stop (n := n) HG.out hlt (nerr_time (Or.inr (Or.inr ⟨by omega, a3⟩))) (by omega))
              have hn4 := c4_new wr 55 (T k) (X k) (Y k) (H k)
              have hp4 := n4_keep (b_alloc (Below.refl _ wr) (.cells #[.int .i64 (T k), .int .i64 (X k), .int .i64 (Y k), .int .i64 (H k)] 55)) hpv
              go_wp2_with fail
              refine d_region (by kernel_rfl) (by kernel_rfl) ?_
              repeat
                first
                  | (refine d_plain (by with_reducible rfl) ?_; apply Exists.intro; refine ⟨fun wq hc hq => ?_, ?_⟩)
                  | (refine d_on (by with_reducible rfl) (by rfl) (by with_reducible rfl) ?_; apply Exists.intro; refine ⟨fun wq hc hq => ?_, ?_⟩)
                  | (refine d_off (by with_reducible rfl) (by rfl) (by rfl) ?_)
                  | (refine d_void (by with_reducible rfl) (by rfl) ?_)
                try any_goals
                  (have q0 := c4_keep hq hn4; have q1 := n4_keep hq hp4; clear hc
                   go_simp
                   first
                     | rfl)
                simp only [Act.put, List.setIfInBounds_toArray, List.set_cons_zero, List.set_cons_succ]
              refine d_nil ?_
              intro w1 hb1
              go_wp2_with fail
              go_ret
              exact ⟨ret1 (HF.out).symm, b_next (b_alloc hbl _) hb1⟩
            · have d3 := decide_eq_false a3
              have hn4 := c4_new wr 55 (T k) (X k) (Y k) (H k)
              have hp4 := n4_keep (b_alloc (Below.refl _ wr) (.cells #[.int .i64 (T k), .int .i64 (X k), .int .i64 (Y k), .int .i64 (H k)] 55)) hpv
              cases hg : goodB (X k) (Y k) with
              | false =>
                have gb : ¬ good (X k) (Y k) := fun e => by rw [goodB_iff.2 e] at hg; cases hg
                have HF := Lib.hid (stop (n := n) HG.out hlt (nerr_point (by intro h; rcases h with h | h | ⟨h, h'⟩ <;> omega) gb) (by omega))
                have C : Hid (Chk (X k) (Y k) 4) := fun w => by have c := check (X k) (Y k) w; rw [chk_bad gb] at c; exact c
                clear gb hg
                go_wp2_with fail
                refine d_region (by kernel_rfl) (by kernel_rfl) ?_
                repeat
                  first
                    | (refine d_plain (by with_reducible rfl) ?_; apply Exists.intro; refine ⟨fun wq hc hq => ?_, ?_⟩)
                    | (refine d_on (by with_reducible rfl) (by rfl) (by with_reducible rfl) ?_; apply Exists.intro; refine ⟨fun wq hc hq => ?_, ?_⟩)
                    | (refine d_off (by with_reducible rfl) (by rfl) (by rfl) ?_)
                    | (refine d_void (by with_reducible rfl) (by rfl) ?_)
                  try any_goals
                    (have q0 := c4_keep hq hn4; have q1 := n4_keep hq hp4; clear hc
                     go_simp
                     first
                       | rfl)
                  simp only [Act.put, List.setIfInBounds_toArray, List.set_cons_zero, List.set_cons_succ]
                refine d_nil ?_
                intro w1 hb1
                replace hn4 := c4_keep hb1 hn4
                go_wp2_with fail
                refine (C.out _).mono ?_; rintro e w2 ⟨rfl, hb2⟩
                replace hn4 := c4_keep hb2 hn4
                go_wp2_with fail
                go_ret
                exact ⟨ret1 (HF.out).symm, b_next (b_next (b_alloc hbl _) hb1) hb2⟩
              | true =>
                have ga : good (X k) (Y k) := goodB_iff.1 hg
                have C : Hid (Chk (X k) (Y k) 0) := fun w => by have c := check (X k) (Y k) w; rw [chk_ok ga] at c; exact c
                have GA := Lib.hid ga
                clear hg ga
                by_cases b1 : H k < 0
                · have HF := Lib.hid (stop (n := n) HG.out hlt (nerr_height (by intro h; rcases h with h | h | ⟨h, h'⟩ <;> omega) GA.out (by omega)) (by omega))
                  go_wp2_with fail
                  refine d_region (by kernel_rfl) (by kernel_rfl) ?_
                  repeat
                    first
                      | (refine d_plain (by with_reducible rfl) ?_; apply Exists.intro; refine ⟨fun wq hc hq => ?_, ?_⟩)
                      | (refine d_on (by with_reducible rfl) (by rfl) (by with_reducible rfl) ?_; apply Exists.intro; refine ⟨fun wq hc hq => ?_, ?_⟩)
                      | (refine d_off (by with_reducible rfl) (by rfl) (by rfl) ?_)
                      | (refine d_void (by with_reducible rfl) (by rfl) ?_)
                    try any_goals
                      (have q0 := c4_keep hq hn4; have q1 := n4_keep hq hp4; clear hc
                       go_simp
                       first
                         | rfl)
                    simp only [Act.put, List.setIfInBounds_toArray, List.set_cons_zero, List.set_cons_succ]
                  refine d_nil ?_
                  intro w1 hb1
                  replace hn4 := c4_keep hb1 hn4
                  go_wp2_with fail
                  refine (C.out _).mono ?_; rintro e w2 ⟨rfl, hb2⟩
                  replace hn4 := c4_keep hb2 hn4
                  go_wp2_with fail
                  go_ret
                  exact ⟨ret1 (HF.out).symm, b_next (b_next (b_alloc hbl _) hb1) hb2⟩
                · by_cases b2 : 60000 < H k
                  · have HF := Lib.hid (stop (n := n) HG.out hlt (nerr_height (by intro h; rcases h with h | h | ⟨h, h'⟩ <;> omega) GA.out (by omega)) (by omega))
                    go_wp2_with fail
                    refine d_region (by kernel_rfl) (by kernel_rfl) ?_
                    repeat
                      first
                        | (refine d_plain (by with_reducible rfl) ?_; apply Exists.intro; refine ⟨fun wq hc hq => ?_, ?_⟩)
                        | (refine d_on (by with_reducible rfl) (by rfl) (by with_reducible rfl) ?_; apply Exists.intro; refine ⟨fun wq hc hq => ?_, ?_⟩)
                        | (refine d_off (by with_reducible rfl) (by rfl) (by rfl) ?_)
                        | (refine d_void (by with_reducible rfl) (by rfl) ?_)
                      try any_goals
                        (have q0 := c4_keep hq hn4; have q1 := n4_keep hq hp4; clear hc
                         go_simp
                         first
                           | rfl)
                      simp only [Act.put, List.setIfInBounds_toArray, List.set_cons_zero, List.set_cons_succ]
                    refine d_nil ?_
                    intro w1 hb1
                    replace hn4 := c4_keep hb1 hn4
                    go_wp2_with fail
                    refine (C.out _).mono ?_; rintro e w2 ⟨rfl, hb2⟩
                    replace hn4 := c4_keep hb2 hn4
                    go_wp2_with fail
                    go_ret
                    exact ⟨ret1 (HF.out).symm, b_next (b_next (b_alloc hbl _) hb1) hb2⟩
                  · have HO := Lib.hid ((nchk_step HG.out).trans (nerr_none (by intro h; rcases h with h | h | ⟨h, h'⟩ <;> omega) GA.out (by omega)))
                    go_wp2_with fail
                    refine d_region (by kernel_rfl) (by kernel_rfl) ?_
                    repeat
                      first
                        | (refine d_plain (by with_reducible rfl) ?_; apply Exists.intro; refine ⟨fun wq hc hq => ?_, ?_⟩)
                        | (refine d_on (by with_reducible rfl) (by rfl) (by with_reducible rfl) ?_; apply Exists.intro; refine ⟨fun wq hc hq => ?_, ?_⟩)
                        | (refine d_off (by with_reducible rfl) (by rfl) (by rfl) ?_)
                        | (refine d_void (by with_reducible rfl) (by rfl) ?_)
                      try any_goals
                        (have q0 := c4_keep hq hn4; have q1 := n4_keep hq hp4; clear hc
                         go_simp
                         first
                           | rfl)
                      simp only [Act.put, List.setIfInBounds_toArray, List.set_cons_zero, List.set_cons_succ]
                    refine d_nil ?_
                    intro w1 hb1
                    replace hn4 := c4_keep hb1 hn4
                    go_wp2_with fail
                    refine (C.out _).mono ?_; rintro e w2 ⟨rfl, hb2⟩
                    replace hn4 := c4_keep hb2 hn4
                    go_wp2_with fail
                    go_roundw
                    case rel => first | exact ⟨k + 1, by omega, HO.out, by go_num, b_next (b_next (b_alloc hbl _) hb1) hb2⟩ | ((repeat apply Exists.intro); exact ⟨⟨k + 1, by omega, HO.out, by go_num, b_next (b_next (b_alloc hbl _) hb1) hb2⟩, rfl⟩)
                    case measure => simp [intOf]; omega
      · by_cases a1 : T k < 0
        · have d1 := decide_eq_true a1
          have HF := Lib.hid (stop (n := n) HG.out hlt (nerr_time (Or.inl a1)) (by omega))
          have hn4 := c4_new wr 55 (T k) (X k) (Y k) (H k)
          go_wp2_with fail
          refine d_region (by kernel_rfl) (by kernel_rfl) ?_
          repeat
            first
              | (refine d_plain (by with_reducible rfl) ?_; apply Exists.intro; refine ⟨fun wq hc hq => ?_, ?_⟩)
              | (refine d_on (by with_reducible rfl) (by rfl) (by with_reducible rfl) ?_; apply Exists.intro; refine ⟨fun wq hc hq => ?_, ?_⟩)
              | (refine d_off (by with_reducible rfl) (by rfl) (by rfl) ?_)
              | (refine d_void (by with_reducible rfl) (by rfl) ?_)
            try any_goals
              (have q0 := c4_keep hq hn4; clear hc
               go_simp
               first
                 | rfl)
            simp only [Act.put, List.setIfInBounds_toArray, List.set_cons_zero, List.set_cons_succ]
          refine d_nil ?_
          intro w1 hb1
          go_wp2_with fail
          go_ret
          exact ⟨ret1 (HF.out).symm, b_next (b_alloc hbl _) hb1⟩
        · have d1 := decide_eq_false a1
          by_cases a2 : 200000 < T k
          · have d2 := decide_eq_true a2
            have HF := Lib.hid (stop (n := n) HG.out hlt (nerr_time (Or.inr (Or.inl a2))) (by omega))
            have hn4 := c4_new wr 55 (T k) (X k) (Y k) (H k)
            go_wp2_with fail
            refine d_region (by kernel_rfl) (by kernel_rfl) ?_
            repeat
              first
                | (refine d_plain (by with_reducible rfl) ?_; apply Exists.intro; refine ⟨fun wq hc hq => ?_, ?_⟩)
                | (refine d_on (by with_reducible rfl) (by rfl) (by with_reducible rfl) ?_; apply Exists.intro; refine ⟨fun wq hc hq => ?_, ?_⟩)
                | (refine d_off (by with_reducible rfl) (by rfl) (by rfl) ?_)
                | (refine d_void (by with_reducible rfl) (by rfl) ?_)
              try any_goals
                (have q0 := c4_keep hq hn4; clear hc
                 go_simp
                 first
                   | rfl)
              simp only [Act.put, List.setIfInBounds_toArray, List.set_cons_zero, List.set_cons_succ]
            refine d_nil ?_
            intro w1 hb1
            go_wp2_with fail
            go_ret
            exact ⟨ret1 (HF.out).symm, b_next (b_alloc hbl _) hb1⟩
          · have d2 := decide_eq_false a2
            have d0 := decide_eq_false hk0; have d0n : decide (0 < k) = false := decide_eq_false (by omega)
            have hn4 := c4_new wr 55 (T k) (X k) (Y k) (H k)
            cases hg : goodB (X k) (Y k) with
            | false =>
              have gb : ¬ good (X k) (Y k) := fun e => by rw [goodB_iff.2 e] at hg; cases hg
              have HF := Lib.hid (stop (n := n) HG.out hlt (nerr_point (by intro h; rcases h with h | h | ⟨h, h'⟩ <;> omega) gb) (by omega))
              have C : Hid (Chk (X k) (Y k) 4) := fun w => by have c := check (X k) (Y k) w; rw [chk_bad gb] at c; exact c
              clear gb hg
              go_wp2_with fail
              refine d_region (by kernel_rfl) (by kernel_rfl) ?_
              repeat
                first
                  | (refine d_plain (by with_reducible rfl) ?_; apply Exists.intro; refine ⟨fun wq hc hq => ?_, ?_⟩)
                  | (refine d_on (by with_reducible rfl) (by rfl) (by with_reducible rfl) ?_; apply Exists.intro; refine ⟨fun wq hc hq => ?_, ?_⟩)
                  | (refine d_off (by with_reducible rfl) (by rfl) (by rfl) ?_)
                  | (refine d_void (by with_reducible rfl) (by rfl) ?_)
                try any_goals
                  (have q0 := c4_keep hq hn4; clear hc
                   go_simp
                   first
                     | rfl)
                simp only [Act.put, List.setIfInBounds_toArray, List.set_cons_zero, List.set_cons_succ]
              refine d_nil ?_
              intro w1 hb1
              replace hn4 := c4_keep hb1 hn4
              go_wp2_with fail
              refine (C.out _).mono ?_; rintro e w2 ⟨rfl, hb2⟩
              replace hn4 := c4_keep hb2 hn4
              go_wp2_with fail
              go_ret
              exact ⟨ret1 (HF.out).symm, b_next (b_next (b_alloc hbl _) hb1) hb2⟩
            | true =>
              have ga : good (X k) (Y k) := goodB_iff.1 hg
              have C : Hid (Chk (X k) (Y k) 0) := fun w => by have c := check (X k) (Y k) w; rw [chk_ok ga] at c; exact c
              have GA := Lib.hid ga
              clear hg ga
              by_cases b1 : H k < 0
              · have HF := Lib.hid (stop (n := n) HG.out hlt (nerr_height (by intro h; rcases h with h | h | ⟨h, h'⟩ <;> omega) GA.out (by omega)) (by omega))
                go_wp2_with fail
                refine d_region (by kernel_rfl) (by kernel_rfl) ?_
                repeat
                  first
                    | (refine d_plain (by with_reducible rfl) ?_; apply Exists.intro; refine ⟨fun wq hc hq => ?_, ?_⟩)
                    | (refine d_on (by with_reducible rfl) (by rfl) (by with_reducible rfl) ?_; apply Exists.intro; refine ⟨fun wq hc hq => ?_, ?_⟩)
                    | (refine d_off (by with_reducible rfl) (by rfl) (by rfl) ?_)
                    | (refine d_void (by with_reducible rfl) (by rfl) ?_)
                  try any_goals
                    (have q0 := c4_keep hq hn4; clear hc
                     go_simp
                     first
                       | rfl)
                  simp only [Act.put, List.setIfInBounds_toArray, List.set_cons_zero, List.set_cons_succ]
                refine d_nil ?_
                intro w1 hb1
                replace hn4 := c4_keep hb1 hn4
                go_wp2_with fail
                refine (C.out _).mono ?_; rintro e w2 ⟨rfl, hb2⟩
                replace hn4 := c4_keep hb2 hn4
                go_wp2_with fail
                go_ret
                exact ⟨ret1 (HF.out).symm, b_next (b_next (b_alloc hbl _) hb1) hb2⟩
              · by_cases b2 : 60000 < H k
                · have HF := Lib.hid (stop (n := n) HG.out hlt (nerr_height (by intro h; rcases h with h | h | ⟨h, h'⟩ <;> omega) GA.out (by omega)) (by omega))
                  go_wp2_with fail
                  refine d_region (by kernel_rfl) (by kernel_rfl) ?_
                  repeat
                    first
                      | (refine d_plain (by with_reducible rfl) ?_; apply Exists.intro; refine ⟨fun wq hc hq => ?_, ?_⟩)
                      | (refine d_on (by with_reducible rfl) (by rfl) (by with_reducible rfl) ?_; apply Exists.intro; refine ⟨fun wq hc hq => ?_, ?_⟩)
                      | (refine d_off (by with_reducible rfl) (by rfl) (by rfl) ?_)
                      | (refine d_void (by with_reducible rfl) (by rfl) ?_)
                    try any_goals
                      (have q0 := c4_keep hq hn4; clear hc
                       go_simp
                       first
                         | rfl)
                    simp only [Act.put, List.setIfInBounds_toArray, List.set_cons_zero, List.set_cons_succ]
                  refine d_nil ?_
                  intro w1 hb1
                  replace hn4 := c4_keep hb1 hn4
                  go_wp2_with fail
                  refine (C.out _).mono ?_; rintro e w2 ⟨rfl, hb2⟩
                  replace hn4 := c4_keep hb2 hn4
                  go_wp2_with fail
                  go_ret
                  exact ⟨ret1 (HF.out).symm, b_next (b_next (b_alloc hbl _) hb1) hb2⟩
                · have HO := Lib.hid ((nchk_step HG.out).trans (nerr_none (by intro h; rcases h with h | h | ⟨h, h'⟩ <;> omega) GA.out (by omega)))
                  go_wp2_with fail
                  refine d_region (by kernel_rfl) (by kernel_rfl) ?_
                  repeat
                    first
                      | (refine d_plain (by with_reducible rfl) ?_; apply Exists.intro; refine ⟨fun wq hc hq => ?_, ?_⟩)
                      | (refine d_on (by with_reducible rfl) (by rfl) (by with_reducible rfl) ?_; apply Exists.intro; refine ⟨fun wq hc hq => ?_, ?_⟩)
                      | (refine d_off (by with_reducible rfl) (by rfl) (by rfl) ?_)
                      | (refine d_void (by with_reducible rfl) (by rfl) ?_)
                    try any_goals
                      (have q0 := c4_keep hq hn4; clear hc
                       go_simp
                       first
                         | rfl)
                    simp only [Act.put, List.setIfInBounds_toArray, List.set_cons_zero, List.set_cons_succ]
                  refine d_nil ?_
                  intro w1 hb1
                  replace hn4 := c4_keep hb1 hn4
                  go_wp2_with fail
                  refine (C.out _).mono ?_; rintro e w2 ⟨rfl, hb2⟩
                  replace hn4 := c4_keep hb2 hn4
                  go_wp2_with fail
                  go_roundw
                  case rel => first | exact ⟨k + 1, by omega, HO.out, by go_num, b_next (b_next (b_alloc hbl _) hb1) hb2⟩ | ((repeat apply Exists.intro); exact ⟨⟨k + 1, by omega, HO.out, by go_num, b_next (b_next (b_alloc hbl _) hb1) hb2⟩, rfl⟩)
                  case measure => simp [intOf]; omega
    · have he : k = n := by omega
      have HE := Lib.hid he; clear he
      go_wp2_with fail
      go_ret
      exact ⟨ret1 (by rw [← HE.out, HG.out]), hbl⟩
end Path
end Go.Proofs.YtmkglhoahdlogaaGreatDoor
