/- What tube.Check returns. -/
import Derived.Test.YteaccanhahmclaaToward
import Derived.Test.YteaccanhahmclaaTubeP
namespace Go.Proofs.Yteaccanhahmclaa
open Go.RowKit
namespace Tube
open Kit Plane
set_option maxHeartbeats 600000 in
theorem check_big (A : Option Addr) (n cap : Nat) (w : World) (hn : 64 < n) (_hc : n ≤ cap) (_hm : cap ≤ 9223372036854775807) : Calls Try.prog 36 #[.slice A n cap] w fun e w' => e = .returned (.int .i64 2) ∧ w = w' := by
  go_enter Try.func36, Try.ntmps36
  go_wp2
  go_ret
  exact ⟨rfl, rfl⟩
set_option maxHeartbeats 600000 in
theorem check_none (A : Option Addr) (cap : Nat) (w : World) : Calls Try.prog 36 #[.slice A 0 cap] w fun e w' => e = .returned (.int .i64 3) ∧ w = w' := by
  go_enter Try.func36, Try.ntmps36
  go_wp2
  go_ret
  exact ⟨rfl, rfl⟩
set_option maxRecDepth 100000 in
set_option maxHeartbeats 4000000 in
theorem check_nodes (n cap b off : Nat) (T X Y H R B : Nat → Int) (w : World) (h0 : 0 < n) (hn : n ≤ 64) (hc : n ≤ cap) (hm : cap ≤ 9223372036854775807) (HV : Hid (∀ k, k < n → S6 w b (off + k * 6) (T k) (X k) (Y k) (H k) (R k) (B k))) :
    Calls Try.prog 36 #[.slice (some ⟨b, off, none⟩) n cap] w fun e w' => e = .returned (.int .i64 (tchk T X Y H R B n)) ∧ Below w.heap.size w w' := by
  go_enter Try.func36, Try.ntmps36
  have hz : ((n : Int) == 0) = false := by simp; omega
  go_wp2
  go_loopw [16] (fun i wr => ∃ k : Nat, k ≤ n ∧ tchk T X Y H R B k = 0 ∧ i = .int .i64 k ∧ Below w.heap.size w wr) (fun i _ => n - (intOf i).toNat)
  case atStart => exact ⟨0, Nat.zero_le _, rfl, rfl, Below.refl _ _⟩
  case round =>
    obtain ⟨k, hk, hg, rfl, hbl⟩ := hrel
    have HG := Lib.hid hg; clear hg
    by_cases hlt : k < n
    · obtain ⟨⟨c0, c1, c2⟩, c3, c4, c5⟩ := s6_keep hbl (HV.out k hlt)
      have hl0 : (k : Int) < (n : Int) := by omega
      by_cases hk0 : 0 < (k : Int)
      · have hpv := s6_keep hbl (HV.out (k - 1) (by omega))
        have hwk : IntKind.i64.wrap ((k : Int) - 1) = ((k - 1 : Nat) : Int) := by rw [IntWalk.i64_in _ (by omega)]; omega
        have hwl : ((k - 1 : Nat) : Int) < (n : Int) := by omega
        by_cases a1 : T k < 0
        · have d1 := decide_eq_true a1
          have HF := Lib.hid (tstop (n := n) HG.out hlt (terr_time (Or.inl a1)) (by omega))
          have hn6 := d6_new wr 70 (T k) (X k) (Y k) (H k) (R k) (B k)
          have hp6 := s6_keep (b_alloc (Below.refl _ wr) (.cells #[.int .i64 (T k), .int .i64 (X k), .int .i64 (Y k), .int .i64 (H k), .int .i64 (R k), .int .i64 (B k)] 70)) hpv
          have HN6 := Lib.hid hn6; clear hn6
          have HP6 := Lib.hid hp6; clear hp6
          go_wp2_with fail
          have hn6 := HN6.out; have hp6 := HP6.out
          refine d_region (by kernel_rfl) (by kernel_rfl) ?_
          repeat
            first
              | (refine d_plain (by with_reducible rfl) ?_; apply Exists.intro; refine ⟨fun wq hc hq => ?_, ?_⟩)
              | (refine d_on (by with_reducible rfl) (by rfl) (by with_reducible rfl) ?_; apply Exists.intro; refine ⟨fun wq hc hq => ?_, ?_⟩)
              | (refine d_off (by with_reducible rfl) (by rfl) (by rfl) ?_)
              | (refine d_void (by with_reducible rfl) (by rfl) ?_)
            try any_goals
              (have q0 := d6_keep (cls hq) hn6; have q1 := s6_keep (cls hq) hp6; clear hc
               go_simp
               first
                 | rfl)
            simp only [Act.put, List.setIfInBounds_toArray, List.set_cons_zero, List.set_cons_succ]
          refine d_nil ?_
          intro w1 hb1
          go_wp2_with fail
          go_ret
          exact ⟨ret1 (HF.out).symm, b_next (b_alloc hbl _) hb1⟩
        · have d1 := decide_eq_false a1
          by_cases a2 : 200000 < T k
          · have d2 := decide_eq_true a2
            have HF := Lib.hid (tstop (n := n) HG.out hlt (terr_time (Or.inr (Or.inl a2))) (by omega))
            have hn6 := d6_new wr 70 (T k) (X k) (Y k) (H k) (R k) (B k)
            have hp6 := s6_keep (b_alloc (Below.refl _ wr) (.cells #[.int .i64 (T k), .int .i64 (X k), .int .i64 (Y k), .int .i64 (H k), .int .i64 (R k), .int .i64 (B k)] 70)) hpv
            have HN6 := Lib.hid hn6; clear hn6
            have HP6 := Lib.hid hp6; clear hp6
            go_wp2_with fail
            have hn6 := HN6.out; have hp6 := HP6.out
            refine d_region (by kernel_rfl) (by kernel_rfl) ?_
            repeat
              first
                | (refine d_plain (by with_reducible rfl) ?_; apply Exists.intro; refine ⟨fun wq hc hq => ?_, ?_⟩)
                | (refine d_on (by with_reducible rfl) (by rfl) (by with_reducible rfl) ?_; apply Exists.intro; refine ⟨fun wq hc hq => ?_, ?_⟩)
                | (refine d_off (by with_reducible rfl) (by rfl) (by rfl) ?_)
                | (refine d_void (by with_reducible rfl) (by rfl) ?_)
              try any_goals
                (have q0 := d6_keep (cls hq) hn6; have q1 := s6_keep (cls hq) hp6; clear hc
                 go_simp
                 first
                   | rfl)
              simp only [Act.put, List.setIfInBounds_toArray, List.set_cons_zero, List.set_cons_succ]
            refine d_nil ?_
            intro w1 hb1
            go_wp2_with fail
            go_ret
            exact ⟨ret1 (HF.out).symm, b_next (b_alloc hbl _) hb1⟩
          · have d2 := decide_eq_false a2
            have d0 := decide_eq_true hk0; have d0n : decide (0 < k) = true := decide_eq_true (by omega)
            by_cases a3 : T k ≤ T (k - 1)
            · have d3 := decide_eq_true a3
              have HF := Lib.hid (tstop (n := n) HG.out hlt (terr_time (Or.inr (Or.inr ⟨by omega, a3⟩))) (by omega))
              have hn6 := d6_new wr 70 (T k) (X k) (Y k) (H k) (R k) (B k)
              have hp6 := s6_keep (b_alloc (Below.refl _ wr) (.cells #[.int .i64 (T k), .int .i64 (X k), .int .i64 (Y k), .int .i64 (H k), .int .i64 (R k), .int .i64 (B k)] 70)) hpv
              have HN6 := Lib.hid hn6; clear hn6
              have HP6 := Lib.hid hp6; clear hp6
              go_wp2_with fail
              have hn6 := HN6.out; have hp6 := HP6.out
              refine d_region (by kernel_rfl) (by kernel_rfl) ?_
              repeat
                first
                  | (refine d_plain (by with_reducible rfl) ?_; apply Exists.intro; refine ⟨fun wq hc hq => ?_, ?_⟩)
                  | (refine d_on (by with_reducible rfl) (by rfl) (by with_reducible rfl) ?_; apply Exists.intro; refine ⟨fun wq hc hq => ?_, ?_⟩)
                  | (refine d_off (by with_reducible rfl) (by rfl) (by rfl) ?_)
                  | (refine d_void (by with_reducible rfl) (by rfl) ?_)
                try any_goals
                  (have q0 := d6_keep (cls hq) hn6; have q1 := s6_keep (cls hq) hp6; clear hc
                   go_simp
                   first
                     | rfl)
                simp only [Act.put, List.setIfInBounds_toArray, List.set_cons_zero, List.set_cons_succ]
              refine d_nil ?_
              intro w1 hb1
              go_wp2_with fail
              go_ret
              exact ⟨ret1 (HF.out).symm, b_next (b_alloc hbl _) hb1⟩
            · have d3 := decide_eq_false a3
              have hn6 := d6_new wr 70 (T k) (X k) (Y k) (H k) (R k) (B k)
              have hp6 := s6_keep (b_alloc (Below.refl _ wr) (.cells #[.int .i64 (T k), .int .i64 (X k), .int .i64 (Y k), .int .i64 (H k), .int .i64 (R k), .int .i64 (B k)] 70)) hpv
              have HN6 := Lib.hid hn6; clear hn6
              have HP6 := Lib.hid hp6; clear hp6
              cases hg : goodB (X k) (Y k) with
              | false =>
                have gb : ¬ good (X k) (Y k) := fun e => by rw [goodB_iff.2 e] at hg; cases hg
                have HF := Lib.hid (tstop (n := n) HG.out hlt (terr_point (by intro h; rcases h with h | h | ⟨h, h'⟩ <;> omega) gb) (by omega))
                have C : Hid (Chk (X k) (Y k) 4) := fun w => by have c := check (X k) (Y k) w; rw [chk_bad gb] at c; exact c
                clear gb hg
                go_wp2_with fail
                have hn6 := HN6.out; have hp6 := HP6.out
                refine d_region (by kernel_rfl) (by kernel_rfl) ?_
                repeat
                  first
                    | (refine d_plain (by with_reducible rfl) ?_; apply Exists.intro; refine ⟨fun wq hc hq => ?_, ?_⟩)
                    | (refine d_on (by with_reducible rfl) (by rfl) (by with_reducible rfl) ?_; apply Exists.intro; refine ⟨fun wq hc hq => ?_, ?_⟩)
                    | (refine d_off (by with_reducible rfl) (by rfl) (by rfl) ?_)
                    | (refine d_void (by with_reducible rfl) (by rfl) ?_)
                  try any_goals
                    (have q0 := d6_keep (cls hq) hn6; have q1 := s6_keep (cls hq) hp6; clear hc
                     go_simp
                     first
                       | rfl)
                  simp only [Act.put, List.setIfInBounds_toArray, List.set_cons_zero, List.set_cons_succ]
                refine d_nil ?_
                intro w1 hb1
                replace hn6 := d6_keep hb1 hn6
                go_wp2_with fail
                refine (C.out _).mono ?_; rintro e w2 ⟨rfl, hb2⟩
                replace hn6 := d6_keep hb2 hn6
                go_wp2_with fail
                go_ret
                exact ⟨ret1 (HF.out).symm, b_next (b_next (b_alloc hbl _) hb1) hb2⟩
              | true =>
                have ga : good (X k) (Y k) := goodB_iff.1 hg
                have C : Hid (Chk (X k) (Y k) 0) := fun w => by have c := check (X k) (Y k) w; rw [chk_ok ga] at c; exact c
                have GA := Lib.hid ga
                clear hg ga
                by_cases b1 : H k < 0 ∨ 60000 < H k ∨ R k < 0 ∨ 1000000 < R k ∨ B k < 0 ∨ 60000 < B k
                · have HF := Lib.hid (tstop (n := n) HG.out hlt (terr_nums (by intro h; rcases h with h | h | ⟨h, h'⟩ <;> omega) GA.out b1) (by omega))
                  go_wp2_with fail
                  have hn6 := HN6.out; have hp6 := HP6.out
                  refine d_region (by kernel_rfl) (by kernel_rfl) ?_
                  repeat
                    first
                      | (refine d_plain (by with_reducible rfl) ?_; apply Exists.intro; refine ⟨fun wq hc hq => ?_, ?_⟩)
                      | (refine d_on (by with_reducible rfl) (by rfl) (by with_reducible rfl) ?_; apply Exists.intro; refine ⟨fun wq hc hq => ?_, ?_⟩)
                      | (refine d_off (by with_reducible rfl) (by rfl) (by rfl) ?_)
                      | (refine d_void (by with_reducible rfl) (by rfl) ?_)
                    try any_goals
                      (have q0 := d6_keep (cls hq) hn6; have q1 := s6_keep (cls hq) hp6; clear hc
                       go_simp
                       first
                         | rfl)
                    simp only [Act.put, List.setIfInBounds_toArray, List.set_cons_zero, List.set_cons_succ]
                  refine d_nil ?_
                  intro w1 hb1
                  replace hn6 := d6_keep hb1 hn6
                  go_wp2_with fail
                  refine (C.out _).mono ?_; rintro e w2 ⟨rfl, hb2⟩
                  replace hn6 := d6_keep hb2 hn6
                  go_wp2_with fail
                  all_goals first | (exfalso; omega) | (go_ret; exact ⟨ret1 (HF.out).symm, b_next (b_next (b_alloc hbl _) hb1) hb2⟩)
                · have HO := Lib.hid ((tchk_step HG.out).trans (terr_none (by intro h; rcases h with h | h | ⟨h, h'⟩ <;> omega) GA.out b1))
                  have v1 : 0 ≤ H k ∧ H k ≤ 60000 ∧ 0 ≤ R k ∧ R k ≤ 1000000 ∧ 0 ≤ B k ∧ B k ≤ 60000 := by omega
                  obtain ⟨v1, v2, v3, v4, v5, v6⟩ := v1
                  clear b1
                  go_wp2_with fail
                  have hn6 := HN6.out; have hp6 := HP6.out
                  refine d_region (by kernel_rfl) (by kernel_rfl) ?_
                  repeat
                    first
                      | (refine d_plain (by with_reducible rfl) ?_; apply Exists.intro; refine ⟨fun wq hc hq => ?_, ?_⟩)
                      | (refine d_on (by with_reducible rfl) (by rfl) (by with_reducible rfl) ?_; apply Exists.intro; refine ⟨fun wq hc hq => ?_, ?_⟩)
                      | (refine d_off (by with_reducible rfl) (by rfl) (by rfl) ?_)
                      | (refine d_void (by with_reducible rfl) (by rfl) ?_)
                    try any_goals
                      (have q0 := d6_keep (cls hq) hn6; have q1 := s6_keep (cls hq) hp6; clear hc
                       go_simp
                       first
                         | rfl)
                    simp only [Act.put, List.setIfInBounds_toArray, List.set_cons_zero, List.set_cons_succ]
                  refine d_nil ?_
                  intro w1 hb1
                  replace hn6 := d6_keep hb1 hn6
                  go_wp2_with fail
                  refine (C.out _).mono ?_; rintro e w2 ⟨rfl, hb2⟩
                  replace hn6 := d6_keep hb2 hn6
                  go_wp2_with fail
                  go_roundw
                  case rel => first | exact ⟨k + 1, by omega, HO.out, by go_num, b_next (b_next (b_alloc hbl _) hb1) hb2⟩ | ((repeat apply Exists.intro); exact ⟨⟨k + 1, by omega, HO.out, by go_num, b_next (b_next (b_alloc hbl _) hb1) hb2⟩, rfl⟩)
                  case measure => simp [intOf]; omega
      · by_cases a1 : T k < 0
        · have d1 := decide_eq_true a1
          have HF := Lib.hid (tstop (n := n) HG.out hlt (terr_time (Or.inl a1)) (by omega))
          have hn6 := d6_new wr 70 (T k) (X k) (Y k) (H k) (R k) (B k)
          have HN6 := Lib.hid hn6; clear hn6
          go_wp2_with fail
          have hn6 := HN6.out
          refine d_region (by kernel_rfl) (by kernel_rfl) ?_
          repeat
            first
              | (refine d_plain (by with_reducible rfl) ?_; apply Exists.intro; refine ⟨fun wq hc hq => ?_, ?_⟩)
              | (refine d_on (by with_reducible rfl) (by rfl) (by with_reducible rfl) ?_; apply Exists.intro; refine ⟨fun wq hc hq => ?_, ?_⟩)
              | (refine d_off (by with_reducible rfl) (by rfl) (by rfl) ?_)
              | (refine d_void (by with_reducible rfl) (by rfl) ?_)
            try any_goals
              (have q0 := d6_keep (cls hq) hn6; clear hc
               go_simp
               first
                 | rfl)
            simp only [Act.put, List.setIfInBounds_toArray, List.set_cons_zero, List.set_cons_succ]
          refine d_nil ?_
          intro w1 hb1
          go_wp2_with fail
          go_ret
          exact ⟨ret1 (HF.out).symm, b_next (b_alloc hbl _) hb1⟩
        · have d1 := decide_eq_false a1
          by_cases a2 : 200000 < T k
          · have d2 := decide_eq_true a2
            have HF := Lib.hid (tstop (n := n) HG.out hlt (terr_time (Or.inr (Or.inl a2))) (by omega))
            have hn6 := d6_new wr 70 (T k) (X k) (Y k) (H k) (R k) (B k)
            have HN6 := Lib.hid hn6; clear hn6
            go_wp2_with fail
            have hn6 := HN6.out
            refine d_region (by kernel_rfl) (by kernel_rfl) ?_
            repeat
              first
                | (refine d_plain (by with_reducible rfl) ?_; apply Exists.intro; refine ⟨fun wq hc hq => ?_, ?_⟩)
                | (refine d_on (by with_reducible rfl) (by rfl) (by with_reducible rfl) ?_; apply Exists.intro; refine ⟨fun wq hc hq => ?_, ?_⟩)
                | (refine d_off (by with_reducible rfl) (by rfl) (by rfl) ?_)
                | (refine d_void (by with_reducible rfl) (by rfl) ?_)
              try any_goals
                (have q0 := d6_keep (cls hq) hn6; clear hc
                 go_simp
                 first
                   | rfl)
              simp only [Act.put, List.setIfInBounds_toArray, List.set_cons_zero, List.set_cons_succ]
            refine d_nil ?_
            intro w1 hb1
            go_wp2_with fail
            go_ret
            exact ⟨ret1 (HF.out).symm, b_next (b_alloc hbl _) hb1⟩
          · have d2 := decide_eq_false a2
            have d0 := decide_eq_false hk0; have d0n : decide (0 < k) = false := decide_eq_false (by omega)
            have hn6 := d6_new wr 70 (T k) (X k) (Y k) (H k) (R k) (B k)
            have HN6 := Lib.hid hn6; clear hn6
            cases hg : goodB (X k) (Y k) with
            | false =>
              have gb : ¬ good (X k) (Y k) := fun e => by rw [goodB_iff.2 e] at hg; cases hg
              have HF := Lib.hid (tstop (n := n) HG.out hlt (terr_point (by intro h; rcases h with h | h | ⟨h, h'⟩ <;> omega) gb) (by omega))
              have C : Hid (Chk (X k) (Y k) 4) := fun w => by have c := check (X k) (Y k) w; rw [chk_bad gb] at c; exact c
              clear gb hg
              go_wp2_with fail
              have hn6 := HN6.out
              refine d_region (by kernel_rfl) (by kernel_rfl) ?_
              repeat
                first
                  | (refine d_plain (by with_reducible rfl) ?_; apply Exists.intro; refine ⟨fun wq hc hq => ?_, ?_⟩)
                  | (refine d_on (by with_reducible rfl) (by rfl) (by with_reducible rfl) ?_; apply Exists.intro; refine ⟨fun wq hc hq => ?_, ?_⟩)
                  | (refine d_off (by with_reducible rfl) (by rfl) (by rfl) ?_)
                  | (refine d_void (by with_reducible rfl) (by rfl) ?_)
                try any_goals
                  (have q0 := d6_keep (cls hq) hn6; clear hc
                   go_simp
                   first
                     | rfl)
                simp only [Act.put, List.setIfInBounds_toArray, List.set_cons_zero, List.set_cons_succ]
              refine d_nil ?_
              intro w1 hb1
              replace hn6 := d6_keep hb1 hn6
              go_wp2_with fail
              refine (C.out _).mono ?_; rintro e w2 ⟨rfl, hb2⟩
              replace hn6 := d6_keep hb2 hn6
              go_wp2_with fail
              go_ret
              exact ⟨ret1 (HF.out).symm, b_next (b_next (b_alloc hbl _) hb1) hb2⟩
            | true =>
              have ga : good (X k) (Y k) := goodB_iff.1 hg
              have C : Hid (Chk (X k) (Y k) 0) := fun w => by have c := check (X k) (Y k) w; rw [chk_ok ga] at c; exact c
              have GA := Lib.hid ga
              clear hg ga
              by_cases b1 : H k < 0 ∨ 60000 < H k ∨ R k < 0 ∨ 1000000 < R k ∨ B k < 0 ∨ 60000 < B k
              · have HF := Lib.hid (tstop (n := n) HG.out hlt (terr_nums (by intro h; rcases h with h | h | ⟨h, h'⟩ <;> omega) GA.out b1) (by omega))
                go_wp2_with fail
                have hn6 := HN6.out
                refine d_region (by kernel_rfl) (by kernel_rfl) ?_
                repeat
                  first
                    | (refine d_plain (by with_reducible rfl) ?_; apply Exists.intro; refine ⟨fun wq hc hq => ?_, ?_⟩)
                    | (refine d_on (by with_reducible rfl) (by rfl) (by with_reducible rfl) ?_; apply Exists.intro; refine ⟨fun wq hc hq => ?_, ?_⟩)
                    | (refine d_off (by with_reducible rfl) (by rfl) (by rfl) ?_)
                    | (refine d_void (by with_reducible rfl) (by rfl) ?_)
                  try any_goals
                    (have q0 := d6_keep (cls hq) hn6; clear hc
                     go_simp
                     first
                       | rfl)
                  simp only [Act.put, List.setIfInBounds_toArray, List.set_cons_zero, List.set_cons_succ]
                refine d_nil ?_
                intro w1 hb1
                replace hn6 := d6_keep hb1 hn6
                go_wp2_with fail
                refine (C.out _).mono ?_; rintro e w2 ⟨rfl, hb2⟩
                replace hn6 := d6_keep hb2 hn6
                go_wp2_with fail
                all_goals first | (exfalso; omega) | (go_ret; exact ⟨ret1 (HF.out).symm, b_next (b_next (b_alloc hbl _) hb1) hb2⟩)
              · have HO := Lib.hid ((tchk_step HG.out).trans (terr_none (by intro h; rcases h with h | h | ⟨h, h'⟩ <;> omega) GA.out b1))
                have v1 : 0 ≤ H k ∧ H k ≤ 60000 ∧ 0 ≤ R k ∧ R k ≤ 1000000 ∧ 0 ≤ B k ∧ B k ≤ 60000 := by omega
                obtain ⟨v1, v2, v3, v4, v5, v6⟩ := v1
                clear b1
                go_wp2_with fail
                have hn6 := HN6.out
                refine d_region (by kernel_rfl) (by kernel_rfl) ?_
                repeat
                  first
                    | (refine d_plain (by with_reducible rfl) ?_; apply Exists.intro; refine ⟨fun wq hc hq => ?_, ?_⟩)
                    | (refine d_on (by with_reducible rfl) (by rfl) (by with_reducible rfl) ?_; apply Exists.intro; refine ⟨fun wq hc hq => ?_, ?_⟩)
                    | (refine d_off (by with_reducible rfl) (by rfl) (by rfl) ?_)
                    | (refine d_void (by with_reducible rfl) (by rfl) ?_)
                  try any_goals
                    (have q0 := d6_keep (cls hq) hn6; clear hc
                     go_simp
                     first
                       | rfl)
                  simp only [Act.put, List.setIfInBounds_toArray, List.set_cons_zero, List.set_cons_succ]
                refine d_nil ?_
                intro w1 hb1
                replace hn6 := d6_keep hb1 hn6
                go_wp2_with fail
                refine (C.out _).mono ?_; rintro e w2 ⟨rfl, hb2⟩
                replace hn6 := d6_keep hb2 hn6
                go_wp2_with fail
                go_roundw
                case rel => first | exact ⟨k + 1, by omega, HO.out, by go_num, b_next (b_next (b_alloc hbl _) hb1) hb2⟩ | ((repeat apply Exists.intro); exact ⟨⟨k + 1, by omega, HO.out, by go_num, b_next (b_next (b_alloc hbl _) hb1) hb2⟩, rfl⟩)
                case measure => simp [intOf]; omega
    · have he : k = n := by omega
      have HE := Lib.hid he; clear he
      go_wp2_with fail
      go_ret
      exact ⟨ret1 (by rw [← HE.out, HG.out]), hbl⟩
abbrev CkC (v : Value) (E : Int) (w : World) : Prop := ∀ w1 : World, Below w.heap.size w w1 → Calls Try.prog 36 #[v] w1 fun e w' => e = .returned (.int .i64 E) ∧ Below w1.heap.size w1 w'
theorem checkC {v : Value} {n : Nat} {T X Y H R B : Nat → Int} {w : World} (hv : TV w v n T X Y H R B) : CkC v (tck T X Y H R B n) w := fun w1 hb => by
  obtain ⟨A, cap, e, hc, hm⟩ := tv_slice hv
  have hm' : cap ≤ 9223372036854775807 := Nat.le_trans hm (by decide)
  by_cases h64 : 64 < n
  · subst e
    have e : tck T X Y H R B n = 2 := if_pos h64
    rw [e]
    exact (check_big A n cap w1 h64 hc hm').mono fun e w' ⟨he, hw⟩ => ⟨he, hw ▸ Below.refl _ _⟩
  · by_cases h0 : n = 0
    · subst h0
      subst e
      have e : tck T X Y H R B 0 = 3 := rfl
      rw [e]
      exact (check_none A cap w1).mono fun e w' ⟨he, hw⟩ => ⟨he, hw ▸ Below.refl _ _⟩
    · have e1 : tck T X Y H R B n = tchk T X Y H R B n := by unfold tck; rw [if_neg h64, if_neg h0]
      rw [e1]
      rcases tv_keep hb hv with ⟨h0', -⟩ | ⟨h0', b, off, cap', rfl, h1, h2, h3⟩
      · omega
      · exact check_nodes n cap' b off T X Y H R B w1 h0' (by omega) h1 (Nat.le_trans h2 (by decide)) (Lib.hid h3)
end Tube
end Go.Proofs.Yteaccanhahmclaa
