/- TopProbeNeverMisses: where two aircraft come too near, a clash contains the second. -/
import Derived.Test.YteieagihdflapaaGreatDoorTopH
import Derived.Test.YteieagihdflapaaGreatDoorJ35
import Derived.Test.YteieagihdflapaaGreatDoorJ37
import Derived.Test.YteieagihdflapaaGreatDoorJ36
import Derived.Test.YteieagihdflapaaGreatDoorJ34
import Derived.Test.YteieagihdflapaaGreatDoorDoorA
import Derived.Test.YteieagihdflapaaGreatDoorJ07
import Derived.Test.YteieagihdflapaaGreatDoorCards
namespace Go.Proofs.YteieagihdflapaaGreatDoor
open Go.RowKit Go.ChangeShapes Go.WideShapes
namespace TopProbeNeverMisses
open Kit Plane Tube Probe
theorem tri_lt {px py qx qy u v : Int} (hu : 0 ≤ u) (hv : 0 ≤ v) (h1 : px * px + py * py ≤ u * u) (h2 : qx * qx + qy * qy < v * v) : (px + qx) * (px + qx) + (py + qy) * (py + qy) < (u + v) * (u + v) := by
  have hid : (px * qx + py * qy) * (px * qx + py * qy) + (px * qy - py * qx) * (px * qy - py * qx) = (px * px + py * py) * (qx * qx + qy * qy) := by grind
  have hs := sq_nonneg (px * qy - py * qx)
  have hq0 : 0 ≤ qx * qx + qy * qy := by have := sq_nonneg qx; have := sq_nonneg qy; omega
  have hm : (px * px + py * py) * (qx * qx + qy * qy) ≤ (u * u) * (v * v) := Int.mul_le_mul h1 (Int.le_of_lt h2) hq0 (sq_nonneg u)
  have he : (u * u) * (v * v) = (u * v) * (u * v) := by grind
  have hc : px * qx + py * qy ≤ u * v := by
    refine le_of_sq (Int.mul_nonneg hu hv) ?_
    generalize (px * qx + py * qy) * (px * qx + py * qy) = a at *
    generalize (px * qy - py * qx) * (px * qy - py * qx) = b at *
    omega
  have e1 : (px + qx) * (px + qx) + (py + qy) * (py + qy) = (px * px + py * py) + (qx * qx + qy * qy) + 2 * (px * qx + py * qy) := by grind
  have e2 : (u + v) * (u + v) = u * u + v * v + 2 * (u * v) := by grind
  rw [e1, e2]
  generalize px * px + py * py = a at *; generalize qx * qx + qy * qy = b at *; generalize px * qx + py * qy = c at *
  omega
/-- Points of separated nodes are separated. -/
theorem safe {x y h r d x' y' h' r' d' lat ver px py qx qy g0 h0 : Int} (hl : 0 ≤ lat) (hr : 0 ≤ r) (hr' : 0 ≤ r') (hs : sepB x y h r d x' y' h' r' d' lat ver = true) (h1 : (inB (sqr x y px py) r && decide (max (h - g0) (g0 - h) ≤ d)) = true) (h2 : (inB (sqr x' y' qx qy) r' && decide (max (h' - h0) (h0 - h') ≤ d')) = true) :
    lat * lat ≤ sqr px py qx qy ∨ ver ≤ max (g0 - h0) (-(g0 - h0)) := by
  unfold inB at h1 h2
  unfold sepB at hs
  simp only [Bool.and_eq_true, Bool.or_eq_true, decide_eq_true_eq] at h1 h2 hs
  rcases hs with hs | hs
  · left
    rcases Int.lt_or_le (sqr px py qx qy) (lat * lat) with hlt | hge
    · exfalso
      have n0 := sqr_nonneg x y x' y'
      obtain ⟨k0, k1, -⟩ := root_spec n0
      have e0 : 0 ≤ root (sqr x y x' y') := k0
      have t1 := tri_lt (px := x - px) (py := y - py) (qx := px - qx) (qy := py - qy) (u := r) (v := lat) hr hl (by have := h1.1.2.2; unfold sqr at this; exact this) (by unfold sqr at hlt; exact hlt)
      rw [show x - px + (px - qx) = x - qx from by omega, show y - py + (py - qy) = y - qy from by omega] at t1
      have t2 := tri_lt (px := qx - x') (py := qy - y') (qx := x - qx) (qy := y - qy) (u := r') (v := r + lat) hr' (by omega) (by
        have := h2.1.2.2; unfold sqr at this
        rw [show qx - x' = -(x' - qx) from by omega, show qy - y' = -(y' - qy) from by omega, Int.neg_mul_neg, Int.neg_mul_neg]; exact this) t1
      rw [show qx - x' + (x - qx) = x - x' from by omega, show qy - y' + (y - qy) = y - y' from by omega] at t2
      have m := sq_mono (x := r' + (r + lat)) (y := root (sqr x y x' y')) (by omega) (by omega)
      have k2 : root (sqr x y x' y') * root (sqr x y x' y') ≤ (x - x') * (x - x') + (y - y') * (y - y') := k1
      omega
    · exact hge
  · right
    omega

section
variable {D : Nat → Td} {lat ver : Int}
theorem clb_mem {a b i : Nat} (h : a < b) (hi : i < (spq D lat ver a b).1) : ∀ k, b < k → (⟨a, b, (spq D lat ver a b).2 i 0, (spq D lat ver a b).2 i 1 - 1⟩ : Ck) ∈ clb D lat ver a k
  | 0, hk => absurd hk (Nat.not_lt_zero b)
  | k + 1, hk => by
    unfold clb
    rw [List.mem_append]
    rcases Nat.lt_or_ge b k with hl | hl
    · exact Or.inl (clb_mem h hi k hl)
    · have e : k = b := by omega
      subst e
      rw [if_pos h]
      exact Or.inr (List.mem_map.2 ⟨i, List.mem_range.2 hi, rfl⟩)
theorem cla_mem {m a b i : Nat} (h : a < b) (hb : b < m) (hi : i < (spq D lat ver a b).1) : ∀ k, a < k → (⟨a, b, (spq D lat ver a b).2 i 0, (spq D lat ver a b).2 i 1 - 1⟩ : Ck) ∈ cla D lat ver m k
  | 0, hk => absurd hk (Nat.not_lt_zero a)
  | k + 1, hk => by
    unfold cla
    rw [List.mem_append]
    rcases Nat.lt_or_ge a k with hl | hl
    · exact Or.inl (cla_mem h hb hi k hl)
    · have e : k = a := by omega
      subst e
      exact Or.inr (clb_mem h hi m hb)

end
/-- tube.Has, whatever it answers. -/
theorem hasX {v : Value} {n : Nat} {T X Y H R B : Nat → Int} {w : World} (hv : TV w v n T X Y H R B) (u qx qy hh : Int) : ∃ (b : Bool) (E : Int), (∀ w1, Below w.heap.size w w1 → Calls Tryz.prog 19 #[v, .int .i64 u, .agg #[.int .i64 qx, .int .i64 qy], .int .i64 hh] w1 fun e w' => e = .returned (.tuple #[.bool b, .int .i64 E]) ∧ Below w1.heap.size w1 w') ∧ (E = 0 → b = true → hasE T X Y H R B n u qx qy hh = 0 ∧ hasB T X Y H R B (segI T n u) u qx qy hh = true) := by
  by_cases hE : hasE T X Y H R B n u qx qy hh = 0
  · obtain ⟨e1, -⟩ := hasE_zero hE
    obtain ⟨p1, l1, -⟩ := tatE_zero e1
    exact ⟨_, 0, fun w1 hb => has_ok (tv_keep hb hv) hE (segI_spec p1.pos l1), fun _ h => ⟨hE, h⟩⟩
  · exact ⟨false, _, fun w1 hb => has_bad (tv_keep hb hv) hE, fun h => absurd h hE⟩
theorem clv_slice {w : World} {v : Value} {L : List Ck} (h : CLV w v L) : ∃ A cap, v = .slice A L.length cap ∧ L.length ≤ cap ∧ cap ≤ maxLen := by
  rcases h with ⟨rfl, rfl | ⟨a, cap, rfl, hm⟩⟩ | ⟨h0, b, cap, rfl, h1, h2, h3⟩
  · exact ⟨_, _, rfl, Nat.le_refl _, Nat.zero_le _⟩
  · exact ⟨_, _, rfl, Nat.zero_le _, hm⟩
  · exact ⟨_, _, rfl, h1, h2⟩
theorem clv_at {w : World} {A : Option Addr} {cap : Nat} {L : List Ck} (h : CLV w (.slice A L.length cap) L) (h0 : 0 < L.length) : ∃ b, A = some ⟨b, 0, none⟩ ∧ ∀ k (h : k < L.length),
    w.cell? ⟨b, k * 4, none⟩ = some (.int .i64 L[k].A) ∧ w.cell? ⟨b, k * 4 + 1, none⟩ = some (.int .i64 L[k].B) ∧ w.cell? ⟨b, k * 4 + 2, none⟩ = some (.int .i64 L[k].F) ∧ w.cell? ⟨b, k * 4 + 3, none⟩ = some (.int .i64 L[k].T) := by
  rcases h with ⟨rfl, -⟩ | ⟨-, b, cap', e, -, -, h3⟩
  · exact absurd h0 (Nat.not_lt_zero 0)
  · injection e with e1
    exact ⟨b, e1, h3⟩

set_option maxRecDepth 100000 in
set_option maxHeartbeats 4000000 in
theorem long_any (b m c : Nat) (vs : Nat → Value) (w : World) (h0 : m ≤ c) (hm : c ≤ 9223372036854775807) (HV : Hid (∀ k, k < m → w.cell? ⟨b, k, none⟩ = some (vs k) ∧ IsT w (vs k))) :
    Calls Tryz.prog 10 #[.slice (some ⟨b, 0, none⟩) m c] w fun e w' => AnyB e ∧ Below w.heap.size w w' := by
  go_enter Tryz.func10, Tryz.ntmps10
  go_wp2_with fail
  go_loopw [7] (fun s wr => ∃ k : Nat, k ≤ m ∧ s = .int .i64 k ∧ Below w.heap.size w wr) (fun s _ => m - (intOf s).toNat)
  case atStart => exact ⟨0, Nat.zero_le _, rfl, Below.refl _ _⟩
  case round =>
    obtain ⟨k, hk, rfl, hbl⟩ := hrel
    by_cases hlt : k < m
    · have hl : (k : Int) < (m : Int) := by omega
      obtain ⟨hcell, n, T, X, Y, H, R, B, htv⟩ := HV.out k hlt
      have hcell := keep hbl hcell
      have htv := tv_keep hbl htv
      obtain ⟨A, cap, hv, hnc, hcap⟩ := tv_slice htv
      rw [hv] at hcell htv
      have hcap' : cap ≤ 9223372036854775807 := Nat.le_trans hcap (by decide)
      clear hv hcap
      have HTV := Lib.hid htv; have HB := Lib.hid hbl; clear htv hbl
      by_cases d1 : 12 < (n : Int)
      · have e1 := decide_eq_true d1
        go_wp2_with fail
        refine d_region (by kernel_rfl) (by kernel_rfl) ?_
        repeat
          first
            | (refine d_plain (by with_reducible rfl) ?_; apply Exists.intro; refine ⟨fun wq hc hq => ?_, ?_⟩)
            | (refine d_on (by with_reducible rfl) (by rfl) (by with_reducible rfl) ?_; apply Exists.intro; refine ⟨fun wq hc hq => ?_, ?_⟩)
            | (refine d_off (by with_reducible rfl) (by rfl) (by rfl) ?_)
            | (refine d_void (by with_reducible rfl) (by rfl) ?_)
          try any_goals
            (have q0 := keep (cls hq) hcell; clear hc
             go_simp
             first
               | rfl)
          simp only [Act.put, List.setIfInBounds_toArray, List.set_cons_zero, List.set_cons_succ]
        refine d_nil ?_
        intro w1 hb1
        go_wp2_with fail
        go_ret
        exact ⟨⟨true, rfl⟩, b_next HB.out hb1⟩
      · have e1 := decide_eq_false d1
        by_cases d2 : 0 < (n : Int)
        · have e2 := decide_eq_true d2
          have hn0 : 0 < n := by omega
          have e2' : decide (0 < n) = true := decide_eq_true hn0
          have hr : ∃ b' off, A = some ⟨b', off, none⟩ ∧ ∀ k, k < n → S6 wr b' (off + k * 6) (T k) (X k) (Y k) (H k) (R k) (B k) := by
            rcases HTV.out with ⟨h, -⟩ | ⟨-, b', off, cap', he, -, -, h3⟩
            · omega
            · injection he with h4; exact ⟨b', off, h4, h3⟩
          obtain ⟨b', off, rfl, h3⟩ := hr
          have E0 := Lib.hid (h3 0 (by omega)); have E1 := Lib.hid (h3 (n - 1) (by omega)); clear h3
          have u1 : IntKind.i64.wrap ((n : Int) - 1) = ((n - 1 : Nat) : Int) := by rw [IntWalk.i64_in _ (by omega)]; omega
          have u2 : ((n - 1 : Nat) : Int) < (n : Int) := by omega
          go_wp2_with fail
          refine d_region (by kernel_rfl) (by kernel_rfl) ?_
          repeat
            first
              | (refine d_plain (by with_reducible rfl) ?_; apply Exists.intro; refine ⟨fun wq hc hq => ?_, ?_⟩)
              | (refine d_on (by with_reducible rfl) (by rfl) (by with_reducible rfl) ?_; apply Exists.intro; refine ⟨fun wq hc hq => ?_, ?_⟩)
              | (refine d_off (by with_reducible rfl) (by rfl) (by rfl) ?_)
              | (refine d_void (by with_reducible rfl) (by rfl) ?_)
            try any_goals
              (have q0 := s6_keep (cls hq) E0.out; have q1 := s6_keep (cls hq) E1.out; rw [Nat.zero_mul, Nat.add_zero] at q0; clear hc
               go_simp
               first
                 | rfl)
            simp only [Act.put, List.setIfInBounds_toArray, List.set_cons_zero, List.set_cons_succ]
          refine d_nil ?_
          intro w1 hb1
          have HB1 := Lib.hid (b_next HB.out hb1); clear hb1
          by_cases d3 : 1200 < IntKind.i64.wrap (T (n - 1) - T 0)
          · have e3 := decide_eq_true d3
            go_wp2_with fail
            go_ret
            exact ⟨⟨true, rfl⟩, HB1.out⟩
          · have e3 := decide_eq_false d3
            go_wp2_with fail
            exact ⟨⟨k + 1, by omega, by go_num, HB1.out⟩, by simp [intOf]; omega⟩
        · have e2 := decide_eq_false d2
          have e2' : decide (0 < n) = false := decide_eq_false (by omega)
          go_wp2_with fail
          refine d_region (by kernel_rfl) (by kernel_rfl) ?_
          repeat
            first
              | (refine d_plain (by with_reducible rfl) ?_; apply Exists.intro; refine ⟨fun wq hc hq => ?_, ?_⟩)
              | (refine d_on (by with_reducible rfl) (by rfl) (by with_reducible rfl) ?_; apply Exists.intro; refine ⟨fun wq hc hq => ?_, ?_⟩)
              | (refine d_off (by with_reducible rfl) (by rfl) (by rfl) ?_)
              | (refine d_void (by with_reducible rfl) (by rfl) ?_)
            try any_goals
              (have q0 := keep (cls hq) hcell; clear hc
               go_simp
               first
                 | rfl)
            simp only [Act.put, List.setIfInBounds_toArray, List.set_cons_zero, List.set_cons_succ]
          refine d_nil ?_
          intro w1 hb1
          have HB1 := Lib.hid (b_next HB.out hb1); clear hb1
          go_wp2_with fail
          exact ⟨⟨k + 1, by omega, by go_num, HB1.out⟩, by simp [intOf]; omega⟩
    · have hl : ¬ (k : Int) < (m : Int) := by omega
      go_wp2_with fail
      go_ret
      exact ⟨⟨false, rfl⟩, hbl⟩
set_option maxRecDepth 100000 in
set_option maxHeartbeats 4000000 in
theorem long_at (A0 : Option Addr) (m c : Nat) (vs : Nat → Value) (w : World) (h0 : m ≤ c) (hm : c ≤ 9223372036854775807) (HV : Hid (∀ k, k < m → ∃ b off, A0 = some ⟨b, off, none⟩ ∧ w.cell? ⟨b, off + k, none⟩ = some (vs k) ∧ IsT w (vs k))) :
    Calls Tryz.prog 10 #[.slice A0 m c] w fun e w' => AnyB e ∧ Below w.heap.size w w' := by
  go_enter Tryz.func10, Tryz.ntmps10
  go_wp2_with fail
  go_loopw [7] (fun s wr => ∃ k : Nat, k ≤ m ∧ s = .int .i64 k ∧ Below w.heap.size w wr) (fun s _ => m - (intOf s).toNat)
  case atStart => exact ⟨0, Nat.zero_le _, rfl, Below.refl _ _⟩
  case round =>
    obtain ⟨k, hk, rfl, hbl⟩ := hrel
    by_cases hlt : k < m
    · have hl : (k : Int) < (m : Int) := by omega
      obtain ⟨b, off, rfl, hcell, n, T, X, Y, H, R, B, htv⟩ := HV.out k hlt
      have hcell := keep hbl hcell
      have htv := tv_keep hbl htv
      obtain ⟨A, cap, hv, hnc, hcap⟩ := tv_slice htv
      rw [hv] at hcell htv
      have hcap' : cap ≤ 9223372036854775807 := Nat.le_trans hcap (by decide)
      clear hv hcap
      have HTV := Lib.hid htv; have HB := Lib.hid hbl; clear htv hbl
      by_cases d1 : 12 < (n : Int)
      · have e1 := decide_eq_true d1
        go_wp2_with fail
        refine d_region (by kernel_rfl) (by kernel_rfl) ?_
        repeat
          first
            | (refine d_plain (by with_reducible rfl) ?_; apply Exists.intro; refine ⟨fun wq hc hq => ?_, ?_⟩)
            | (refine d_on (by with_reducible rfl) (by rfl) (by with_reducible rfl) ?_; apply Exists.intro; refine ⟨fun wq hc hq => ?_, ?_⟩)
            | (refine d_off (by with_reducible rfl) (by rfl) (by rfl) ?_)
            | (refine d_void (by with_reducible rfl) (by rfl) ?_)
          try any_goals
            (have q0 := keep (cls hq) hcell; clear hc
             go_simp
             first
               | rfl)
          simp only [Act.put, List.setIfInBounds_toArray, List.set_cons_zero, List.set_cons_succ]
        refine d_nil ?_
        intro w1 hb1
        go_wp2_with fail
        go_ret
        exact ⟨⟨true, rfl⟩, b_next HB.out hb1⟩
      · have e1 := decide_eq_false d1
        by_cases d2 : 0 < (n : Int)
        · have e2 := decide_eq_true d2
          have hn0 : 0 < n := by omega
          have e2' : decide (0 < n) = true := decide_eq_true hn0
          have hr : ∃ b' off', A = some ⟨b', off', none⟩ ∧ ∀ k, k < n → S6 wr b' (off' + k * 6) (T k) (X k) (Y k) (H k) (R k) (B k) := by
            rcases HTV.out with ⟨h, -⟩ | ⟨-, b', off', cap', he, -, -, h3⟩
            · omega
            · injection he with h4; exact ⟨b', off', h4, h3⟩
          obtain ⟨b', off', rfl, h3⟩ := hr
          have E0 := Lib.hid (h3 0 (by omega)); have E1 := Lib.hid (h3 (n - 1) (by omega)); clear h3
          have u1 : IntKind.i64.wrap ((n : Int) - 1) = ((n - 1 : Nat) : Int) := by rw [IntWalk.i64_in _ (by omega)]; omega
          have u2 : ((n - 1 : Nat) : Int) < (n : Int) := by omega
          go_wp2_with fail
          refine d_region (by kernel_rfl) (by kernel_rfl) ?_
          repeat
            first
              | (refine d_plain (by with_reducible rfl) ?_; apply Exists.intro; refine ⟨fun wq hc hq => ?_, ?_⟩)
              | (refine d_on (by with_reducible rfl) (by rfl) (by with_reducible rfl) ?_; apply Exists.intro; refine ⟨fun wq hc hq => ?_, ?_⟩)
              | (refine d_off (by with_reducible rfl) (by rfl) (by rfl) ?_)
              | (refine d_void (by with_reducible rfl) (by rfl) ?_)
            try any_goals
              (have q0 := s6_keep (cls hq) E0.out; have q1 := s6_keep (cls hq) E1.out; rw [Nat.zero_mul, Nat.add_zero] at q0; clear hc
               go_simp
               first
                 | rfl)
            simp only [Act.put, List.setIfInBounds_toArray, List.set_cons_zero, List.set_cons_succ]
          refine d_nil ?_
          intro w1 hb1
          have HB1 := Lib.hid (b_next HB.out hb1); clear hb1
          by_cases d3 : 1200 < IntKind.i64.wrap (T (n - 1) - T 0)
          · have e3 := decide_eq_true d3
            go_wp2_with fail
            go_ret
            exact ⟨⟨true, rfl⟩, HB1.out⟩
          · have e3 := decide_eq_false d3
            go_wp2_with fail
            exact ⟨⟨k + 1, by omega, by go_num, HB1.out⟩, by simp [intOf]; omega⟩
        · have e2 := decide_eq_false d2
          have e2' : decide (0 < n) = false := decide_eq_false (by omega)
          go_wp2_with fail
          refine d_region (by kernel_rfl) (by kernel_rfl) ?_
          repeat
            first
              | (refine d_plain (by with_reducible rfl) ?_; apply Exists.intro; refine ⟨fun wq hc hq => ?_, ?_⟩)
              | (refine d_on (by with_reducible rfl) (by rfl) (by with_reducible rfl) ?_; apply Exists.intro; refine ⟨fun wq hc hq => ?_, ?_⟩)
              | (refine d_off (by with_reducible rfl) (by rfl) (by rfl) ?_)
              | (refine d_void (by with_reducible rfl) (by rfl) ?_)
            try any_goals
              (have q0 := keep (cls hq) hcell; clear hc
               go_simp
               first
                 | rfl)
            simp only [Act.put, List.setIfInBounds_toArray, List.set_cons_zero, List.set_cons_succ]
          refine d_nil ?_
          intro w1 hb1
          have HB1 := Lib.hid (b_next HB.out hb1); clear hb1
          go_wp2_with fail
          exact ⟨⟨k + 1, by omega, by go_num, HB1.out⟩, by simp [intOf]; omega⟩
    · have hl : ¬ (k : Int) < (m : Int) := by omega
      go_wp2_with fail
      go_ret
      exact ⟨⟨false, rfl⟩, hbl⟩
theorem longC {w : World} {v : Value} {m : Nat} {D : Nat → Td} (h : TsV w v m D) : Calls Tryz.prog 10 #[v] w fun e w' => AnyB e ∧ Below w.heap.size w w' := by
  rcases h with ⟨rfl, rfl | ⟨a, cap, rfl, hm⟩⟩ | ⟨h0, b, off, cap, rfl, h1, h2, h3⟩
  · exact long_at none 0 0 (fun _ => .slice none 0 0) w (Nat.le_refl _) (by decide) (Lib.hid fun k hk => absurd hk (Nat.not_lt_zero k))
  · exact long_at (some a) 0 cap (fun _ => .slice none 0 0) w (Nat.zero_le _) (Nat.le_trans hm (by decide)) (Lib.hid fun k hk => absurd hk (Nat.not_lt_zero k))
  · have e : ∀ k, ∃ u, k < m → w.cell? ⟨b, off + k, none⟩ = some u ∧ TD w u (D k) := fun k => by
      by_cases hk : k < m
      · exact (h3 k hk).elim fun u hu => ⟨u, fun _ => hu⟩
      · exact ⟨undef, fun h => absurd h hk⟩
    obtain ⟨vs, hvs⟩ := Classical.axiomOfChoice e
    exact long_at _ m cap vs w h1 (Nat.le_trans h2 (by decide)) (Lib.hid fun k hk => ⟨b, off, rfl, (hvs k hk).1, _, _, _, _, _, _, _, (hvs k hk).2⟩)

/-- Where two points of two tubes come too near at a second, a clash of them holds this second. -/
theorem hit {D : Nat → Td} {m : Nat} {lat ver t px py qx qy g h : Int} (_ht : toks D m) (hs : sepE lat ver = 0) {i k : Nat} (hik : i < k) (hk : k < m)
    (h1 : hasE (D i).T (D i).X (D i).Y (D i).H (D i).R (D i).B (D i).n t px py g = 0) (h2 : hasE (D k).T (D k).X (D k).Y (D k).H (D k).R (D k).B (D k).n t qx qy h = 0)
    (b1 : hasB (D i).T (D i).X (D i).Y (D i).H (D i).R (D i).B (segI (D i).T (D i).n t) t px py g = true) (b2 : hasB (D k).T (D k).X (D k).Y (D k).H (D k).R (D k).B (segI (D k).T (D k).n t) t qx qy h = true)
    (n1 : sqr px py qx qy < lat * lat) (n2 : max (g - h) (-(g - h)) < ver) :
    ∃ c ∈ cla D lat ver m m, c.A = (i : Int) ∧ c.B = (k : Int) ∧ c.F ≤ t ∧ t ≤ c.T := by
  obtain ⟨e1, -⟩ := hasE_zero h1
  obtain ⟨e2, -⟩ := hasE_zero h2
  obtain ⟨p1, l1, u1, -⟩ := tatE_zero e1
  obtain ⟨p2, l2, u2, -⟩ := tatE_zero e2
  have bd1 := at_bds p1 (segI_spec p1.pos l1) u1
  have bd2 := at_bds p2 (segI_spec p2.pos l2) u2
  have hl : 0 ≤ lat := by unfold sepE at hs; split at hs <;> omega
  have hc : cfT (D i).T (D i).X (D i).Y (D i).H (D i).R (D i).B (D i).n (D k).T (D k).X (D k).Y (D k).H (D k).R (D k).B (D k).n lat ver t = true := by
    unfold cfT
    rw [Bool.not_eq_true']
    refine Bool.eq_false_iff.2 fun q => ?_
    have r := safe hl (by omega) (by omega) q b1 b2
    omega
  have ok := spanN_ok (cfT (D i).T (D i).X (D i).Y (D i).H (D i).R (D i).B (D i).n (D k).T (D k).X (D k).Y (D k).H (D k).R (D k).B (D k).n lat ver) (max ((D i).T 0) ((D k).T 0)) (min ((D i).T ((D i).n - 1)) ((D k).T ((D k).n - 1)) + 1 - max ((D i).T 0) ((D k).T 0)).toNat
  obtain ⟨j, hj, j1, j2⟩ := ok.all t (by omega) (by omega) hc
  exact ⟨_, cla_mem hik hk hj m (by omega), rfl, rfl, j1, Int.le_sub_one_of_lt j2⟩
/-- None of the first q clashes is of these two tubes and holds the second. -/
def Nic (L : List Ck) (I K u : Int) (q : Nat) : Prop := ∀ c ∈ L.take q, ¬ (c.A = I ∧ c.B = K ∧ c.F ≤ u ∧ u ≤ c.T)
theorem nic_zero (L : List Ck) (I K u : Int) : Nic L I K u 0 := fun c h => by simp at h
theorem nic_step {L : List Ck} {I K u : Int} {q : Nat} (hq : q < L.length) (h : Nic L I K u q) (hn : ¬ (L[q].A = I ∧ L[q].B = K ∧ L[q].F ≤ u ∧ u ≤ L[q].T)) : Nic L I K u (q + 1) := fun c hc => by
  rw [List.take_add_one, List.getElem?_eq_getElem hq] at hc
  rcases List.mem_append.1 hc with g | g
  · exact h c g
  · have e : c = L[q] := by simpa using g
    rw [e]; exact hn
theorem nic_end {L : List Ck} {I K u : Int} (h : Nic L I K u L.length) (g : ∃ c ∈ L, c.A = I ∧ c.B = K ∧ c.F ≤ u ∧ u ≤ c.T) : False := by
  obtain ⟨c, hc, q⟩ := g
  refine h c ?_ q
  rw [List.take_length]; exact hc
set_option maxRecDepth 100000 in
set_option maxHeartbeats 8000000 in
theorem core (A : Option Addr) (m M c : Nat) (D : Nat → Td) (lat ver i0 k0 t0 px py qx qy g h : Int) (w : World) (hM4 : M ≤ 4) (hM : (min (m : Int) 4).toNat = M) (_hMm : M ≤ m) (hmc : m ≤ c) (hcm : c ≤ maxLen) (HV : Hid (TsV w (.slice A M c) M D)) (WK : Hid (∀ w1, Below w.heap.size w w1 → Calls Tryz.prog 9 #[] w1 fun e w' => e = .returned (.bool true) ∧ Below w1.heap.size w1 w')) :
    Calls Tryz.prog 5 #[.slice A m c, .agg #[.int .i64 lat, .int .i64 ver], .int .i64 i0, .int .i64 k0, .int .i64 t0, .agg #[.int .i64 px, .int .i64 py], .agg #[.int .i64 qx, .int .i64 qy], .int .i64 g, .int .i64 h] w fun e w' => e = .returned (.bool true) ∧ Below w.heap.size w w' := by
  have hc9 : c ≤ 9223372036854775807 := Nat.le_trans hcm (by decide)
  have hm9 : (m : Int) ≤ 9223372036854775807 := by omega
  have hm0 : (0 : Int) ≤ (m : Int) := Int.natCast_nonneg _
  have HM := Lib.hid hM; clear hM
  clear hcm
  have LG := Lib.hid fun (w1 : World) (hb : Below w.heap.size w w1) => longC (ts_keep hb HV.out)
  have AC := Lib.hid fun (w1 : World) (hb : Below w.heap.size w w1) => allC (ts_keep hb HV.out) lat ver
  go_enter Tryz.func5, Tryz.ntmps5
  go_wp2_with fail
  all_goals try (exfalso; omega)
  rw [HM.out]
  have HS0 := p2_new w 25 lat ver
  have HP0 := p2_new (w.alloc (.cells #[.int .i64 lat, .int .i64 ver] 25)) 54 px py
  have HQ0 := p2_new ((w.alloc (.cells #[.int .i64 lat, .int .i64 ver] 25)).alloc (.cells #[.int .i64 px, .int .i64 py] 54)) 54 qx qy
  rw [World.size_alloc] at HP0 HQ0
  rw [World.size_alloc] at HQ0
  have HS := Lib.hid (p2_alloc (.cells #[.int .i64 qx, .int .i64 qy] 54) (p2_alloc (.cells #[.int .i64 px, .int .i64 py] 54) HS0))
  have HP := Lib.hid (p2_alloc (.cells #[.int .i64 qx, .int .i64 qy] 54) HP0)
  have HQ := Lib.hid HQ0
  have W0 := Lib.hid (b_alloc (b_alloc (b_alloc (Below.refl w.heap.size w) (.cells #[.int .i64 lat, .int .i64 ver] 25)) (.cells #[.int .i64 px, .int .i64 py] 54)) (.cells #[.int .i64 qx, .int .i64 qy] 54))
  clear HS0 HP0 HQ0
  obtain ⟨n0, hn0⟩ : ∃ n0, n0 = w.heap.size := ⟨_, rfl⟩
  rw [← hn0] at HS HP HQ ⊢
  clear hn0
  generalize ((w.alloc (.cells #[.int .i64 lat, .int .i64 ver] 25)).alloc (.cells #[.int .i64 px, .int .i64 py] 54)).alloc (.cells #[.int .i64 qx, .int .i64 qy] 54) = w0 at *
  (with_reducible refine (WK.out _ W0.out).mono ?_); rintro e w1 ⟨rfl, hb⟩
  have W1 := Lib.hid (b_next W0.out hb); have S1 := Lib.hid (p2_keep hb HS.out); have P1 := Lib.hid (p2_keep hb HP.out); have Q1 := Lib.hid (p2_keep hb HQ.out); clear hb
  by_cases hM2 : M < 2
  · have hM2' : (M : Int) < 2 := by omega
    have d2 := decide_eq_true hM2; have d2' := decide_eq_true hM2'
    go_wp2_with fail
    all_goals
      go_ret
      exact ⟨by first | rfl | exact retb rfl, W1.out⟩
  have hM2' : ¬ (M : Int) < 2 := by omega
  have d2 := decide_eq_false hM2; have d2' := decide_eq_false hM2'
  go_wp2_with fail
  (with_reducible refine (LG.out _ W1.out).mono ?_); rintro e w2 ⟨⟨r, rfl⟩, hb⟩
  have W2 := Lib.hid (b_next W1.out hb); have S2 := Lib.hid (p2_keep hb S1.out); have P2' := Lib.hid (p2_keep hb P1.out); have Q2 := Lib.hid (p2_keep hb Q1.out); clear hb
  cases r with
  | true =>
    go_wp2_with fail
    go_ret
    exact ⟨by first | rfl | exact retb rfl, W2.out⟩
  | false =>
  obtain ⟨p0, p1⟩ := S2.out
  go_wp2_with fail
  (with_reducible refine (AC.out _ W2.out).mono ?_); rintro e w3 ⟨har, hb⟩
  have W3 := Lib.hid (b_next W2.out hb); have S3 := Lib.hid (p2_keep hb S2.out); have P3 := Lib.hid (p2_keep hb P2'.out); have Q3 := Lib.hid (p2_keep hb Q2.out); clear hb p0 p1
  rcases har with ⟨E, hE0, rfl, -, -⟩ | ⟨hE, -, v, L, rfl, hp, -, hcl⟩
  · have hE1 : (E != 0) = true := by simpa using hE0
    have hE2 : (E == 0) = false := by simpa using hE0
    clear hE0
    go_wp2_with fail
    go_ret
    exact ⟨by first | rfl | exact retb rfl, W3.out⟩
  have hE' := hE
  unfold allE at hE'
  split at hE'
  · rename_i q; exact absurd hE' q
  rename_i hsep0
  have hsep := Classical.not_not.1 hsep0
  split at hE'
  · cases hE'
  have HT := Lib.hid (toks_of hE')
  have HSEP := Lib.hid hsep
  have HMEM : Hid (∀ c, c ∈ cla D lat ver M M → c ∈ L) := Lib.hid fun c hc => hp.mem_iff.2 hc
  obtain ⟨Av, cv, rfl, hv1, hv2⟩ := clv_slice hcl
  have hv9 : cv ≤ 9223372036854775807 := Nat.le_trans hv2 (by decide)
  have CL3 := Lib.hid hcl
  clear hE hE' hsep0 hsep hp hcl hv2
  go_wp2_with fail
  have hMp : (0 : Int) < (M : Int) := by omega
  have hMz : ¬ (M : Int) = 0 := by omega
  have hMe : ((M : Int) == 0) = false := by simpa using hMz
  have hMz' : ¬ M = 0 := by omega
  have hMe' : (M == 0) = false := by simpa using hMz'
  have a1 := Int.tmod_lt_of_pos i0 hMp
  have a2 := Int.lt_tmod_of_pos i0 hMp
  have a3 := Int.tmod_lt_of_pos k0 hMp
  have a4 := Int.lt_tmod_of_pos k0 hMp
  refine d_region (by kernel_rfl) (by kernel_rfl) ?_
  repeat
    first
      | (refine d_plain (by with_reducible rfl) ?_; apply Exists.intro; refine ⟨fun wq hc hq => ?_, ?_⟩)
      | (refine d_on (by with_reducible rfl) (by rfl) (by with_reducible rfl) ?_; apply Exists.intro; refine ⟨fun wq hc hq => ?_, ?_⟩)
      | (refine d_off (by with_reducible rfl) (by rfl) (by rfl) ?_)
      | (refine d_void (by with_reducible rfl) (by rfl) ?_)
    try any_goals
      (skip; clear hc
       go_simp
       first
         | rfl)
    simp only [Act.put, List.setIfInBounds_toArray, List.set_cons_zero, List.set_cons_succ]
  refine d_nil ?_
  intro w4 hb4
  have hmod : ∀ x : Int, ∃ I : Nat, (IntKind.i64.wrap (x.tmod (M : Int) + (M : Int))).tmod (M : Int) = (I : Int) ∧ I < M := fun x => by
    have b1 := Int.tmod_lt_of_pos x hMp
    have b2 := Int.lt_tmod_of_pos x hMp
    rw [IntWalk.i64_in _ (by omega)]
    have b3 := Int.tmod_lt_of_pos (x.tmod (M : Int) + (M : Int)) hMp
    have b4 : 0 ≤ (x.tmod (M : Int) + (M : Int)).tmod (M : Int) := Int.tmod_nonneg _ (by omega)
    exact ⟨((x.tmod (M : Int) + (M : Int)).tmod (M : Int)).toNat, by omega, by omega⟩
  obtain ⟨I, hI, hIM⟩ := hmod i0
  obtain ⟨K, hK, hKM⟩ := hmod k0
  rw [hI, hK]
  have W4 := Lib.hid (b_next W3.out hb4); have S4 := Lib.hid (p2_keep hb4 S3.out); have P4 := Lib.hid (p2_keep hb4 P3.out); have Q4 := Lib.hid (p2_keep hb4 Q3.out); have CL4 := Lib.hid (clv_keep hb4 CL3.out)
  clear hmod hI hK a1 a2 a3 a4 hb4 CL3 S3 P3 Q3
  have hIMi : (I : Int) < (M : Int) := by omega
  have hKMi : (K : Int) < (M : Int) := by omega
  rcases Nat.lt_trichotomy I K with hik | hik | hik
  · have f1 : ¬ (I : Int) = (K : Int) := by omega
    have f2 : ((I : Int) == (K : Int)) = false := by simpa using f1
    have f3 : ¬ (K : Int) < (I : Int) := by omega
    have f4 : decide ((K : Int) < (I : Int)) = false := decide_eq_false f3
    obtain ⟨vb, vo, vc, e, hq1, hq2, h3⟩ := ts_at (ts_keep W4.out HV.out) (show 0 < M by omega)
    injection e with e1 _ e3
    subst e1 e3
    obtain ⟨ua, ca, ta⟩ := h3 I (by omega)
    obtain ⟨ub, cb, tb⟩ := h3 K (by omega)
    have tp := HT.out I (by omega)
    have tn0 := tp.time 0 tp.pos
    obtain ⟨b1, o1, c1, rfl, hn1, hn2, h6⟩ : ∃ b1 o1 c1, ua = .slice (some ⟨b1, o1, none⟩) (D I).n c1 ∧ (D I).n ≤ c1 ∧ c1 ≤ maxLen ∧ w4.cell? ⟨b1, o1, none⟩ = some (.int .i64 ((D I).T 0)) := by
      rcases ta with ⟨h0, -⟩ | ⟨h0, b, off, cap, e, h1, h2, h3⟩
      · have := tp.pos; omega
      · have q := (h3 0 h0).1
        rw [Nat.zero_mul, Nat.add_zero] at q
        exact ⟨b, off, cap, e, h1, h2, q.1⟩
    have hn3 : c1 ≤ 9223372036854775807 := Nat.le_trans hn2 (by decide)
    have hpos := tp.pos
    have hposi : (0 : Int) < ((D I).n : Int) := by omega
    obtain ⟨A2, c2, rfl, -, -⟩ := tv_slice tb
    have tm1 := Int.tmod_lt_of_pos t0 (show (0 : Int) < 1200 by decide)
    have tm2 := Int.lt_tmod_of_pos t0 (show (0 : Int) < 1200 by decide)
    obtain ⟨u, hu⟩ : ∃ u, (D I).T 0 + t0.tmod 1200 % 1200 = u := ⟨_, rfl⟩
    have HTA := Lib.hid ta; have HTB := Lib.hid tb
    clear h3 ta tb
    go_wp2_with fail
    have CA := Lib.hid ca; have CB := Lib.hid cb
    obtain ⟨ba, ea, HA, hxa⟩ := hasX HTA.out u px py g
    obtain ⟨bb, eb, HB, hxb⟩ := hasX HTB.out u qx qy h
    have HAh := Lib.hid HA; have HBh := Lib.hid HB; have XA := Lib.hid hxa; have XB := Lib.hid hxb
    clear HA HB hxa hxb ca cb
    go_region_held3 (fun w' => w'.cell? ⟨vb, vo + I, none⟩ = some (.slice (some ⟨b1, o1, none⟩) (D I).n c1) ∧ w'.cell? ⟨n0 + 1, 0, none⟩ = some (.int .i64 px) ∧ w'.cell? ⟨n0 + 1, 1, none⟩ = some (.int .i64 py) ∧ Below w4.heap.size w4 w')
      (first
        | exact ⟨CA.out, P4.out.1, P4.out.2, (Below.refl _ _).drew⟩
        | exact ⟨keep hb9 CA.out, keep hb9 P4.out.1, keep hb9 P4.out.2, hb9⟩
        | assumption)
      ((first
        | (go_at_call 19; refine (HAh.out _ (b_drew (Below.refl _ _))).mono ?_; rintro e w9 ⟨rfl, hb9'⟩; have hb9 := b_next (b_drew (Below.refl w4.heap.size w4)) hb9'; clear hb9')))
    have W9 := Lib.hid (b_next W4.out hb9); have S9 := Lib.hid (p2_keep hb9 S4.out); have P9 := Lib.hid (p2_keep hb9 P4.out); have Q9 := Lib.hid (p2_keep hb9 Q4.out); have CL9 := Lib.hid (clv_keep hb9 CL4.out)
    have CB9 := Lib.hid (keep hb9 CB.out)
    have HB9 := Lib.hid fun (w1 : World) (hb : Below w9.heap.size w9 w1) => HBh.out w1 (b_next hb9 hb)
    clear hb9 S4 P4 Q4 CL4 HAh CA CB HBh
    go_wp2_with fail
    go_region_held3 (fun w' => w'.cell? ⟨vb, vo + K, none⟩ = some (.slice A2 (D K).n c2) ∧ w'.cell? ⟨n0 + 1 + 1, 0, none⟩ = some (.int .i64 qx) ∧ w'.cell? ⟨n0 + 1 + 1, 1, none⟩ = some (.int .i64 qy) ∧ Below w9.heap.size w9 w')
      (first
        | exact ⟨CB9.out, Q9.out.1, Q9.out.2, (Below.refl _ _).drew⟩
        | exact ⟨keep hb5 CB9.out, keep hb5 Q9.out.1, keep hb5 Q9.out.2, hb5⟩
        | assumption)
      ((first
        | (go_at_call 19; refine (HB9.out _ (b_drew (Below.refl _ _))).mono ?_; rintro e w5 ⟨rfl, hb5'⟩; have hb5 := b_next (b_drew (Below.refl w9.heap.size w9)) hb5'; clear hb5')))
    have W5 := Lib.hid (b_next W9.out hb5); have S5 := Lib.hid (p2_keep hb5 S9.out); have P5 := Lib.hid (p2_keep hb5 P9.out); have Q5 := Lib.hid (p2_keep hb5 Q9.out); have CL5 := Lib.hid (clv_keep hb5 CL9.out)
    clear hb5 S9 P9 Q9 CL9 CB9 HB9
    by_cases hea : ea = 0
    · subst hea
      by_cases heb : eb = 0
      · subst heb
        cases ba with
        | false =>
          go_wp2_with fail
          go_ret
          exact ⟨by first | rfl | exact retb rfl, W5.out⟩
        | true =>
        cases bb with
        | false =>
          go_wp2_with fail
          go_ret
          exact ⟨by first | rfl | exact retb rfl, W5.out⟩
        | true =>
        have HX := Lib.hid (XA.out rfl rfl); have HY := Lib.hid (XB.out rfl rfl)
        clear XA XB
        obtain ⟨p0, p1⟩ := P5.out; obtain ⟨q0, q1⟩ := Q5.out; obtain ⟨s0, s1⟩ := S5.out
        go_wp2_with fail
        obtain ⟨-, ck1, hg0, hg1⟩ := hasE_zero HX.out.1
        obtain ⟨-, ck2, hh0, hh1⟩ := hasE_zero HY.out.1
        have gd1 := good_of ck1; have gd2 := good_of ck2
        have SQ1 := Lib.hid fun (w1 : World) => square px py qx qy w1 rfl (by unfold good at *; omega)
        have hsb : (0 ≤ lat ∧ lat ≤ 1000000) ∧ 0 ≤ ver ∧ ver ≤ 60000 := by
          have := HSEP.out; unfold sepE at this; split at this <;> omega
        have hll : 0 ≤ lat * lat ∧ lat * lat ≤ 1000000 * 1000000 := ⟨Int.mul_nonneg hsb.1.1 hsb.1.1, Int.mul_le_mul hsb.1.2 hsb.1.2 hsb.1.1 (by decide)⟩
        obtain ⟨LL, hLL⟩ : ∃ LL, lat * lat = LL := ⟨_, rfl⟩
        have hwl : IntKind.i64.wrap (lat * lat) = LL := by rw [hLL]; rw [hLL] at hll; exact IntWalk.i64_in _ (by omega)
        obtain ⟨SS, hSS⟩ : ∃ SS, sqr px py qx qy = SS := ⟨_, rfl⟩
        rw [hSS] at SQ1
        have HLL := Lib.hid hLL; have HSS := Lib.hid hSS
        clear hLL hSS hll gd1 gd2 ck1 ck2
        by_cases d1 : LL ≤ SS
        · have f5 := decide_eq_true d1
          refine d_region (by kernel_rfl) (by kernel_rfl) ?_
          repeat
            first
              | (refine d_plain (by with_reducible rfl) ?_; apply Exists.intro; refine ⟨fun wq hc hq => ?_, ?_⟩)
              | (refine d_on (by with_reducible rfl) (by rfl) (by with_reducible rfl) ?_; apply Exists.intro; refine ⟨fun wq hc hq => ?_, ?_⟩)
              | (refine d_off (by with_reducible rfl) (by rfl) (by rfl) ?_)
              | (refine d_void (by with_reducible rfl) (by rfl) ?_)
            try any_goals
              (have l0 := keep (cls hq) p0; have l1 := keep (cls hq) p1; have l2 := keep (cls hq) q0; have l3 := keep (cls hq) q1; have l4 := keep (cls hq) s0; have l5 := keep (cls hq) s1; clear hc
               go_simp
               first
                 | rfl
                 | (go_at_call 20; with_reducible exact call_below hq (SQ1.out _)))
            simp only [Act.put, List.setIfInBounds_toArray, List.set_cons_zero, List.set_cons_succ]
          refine d_nil ?_
          intro w6 hb6
          have W6 := Lib.hid (b_next W5.out hb6)
          go_wp2_with fail
          go_ret
          exact ⟨by first | rfl | exact retb rfl, W6.out⟩
        · have f5 := decide_eq_false d1
          have wg : IntKind.i64.wrap (g - h) = g - h := IntWalk.i64_in _ (by omega)
          have wh : IntKind.i64.wrap (h - g) = h - g := IntWalk.i64_in _ (by omega)
          obtain ⟨MX, hMX⟩ : ∃ MX, max (g - h) (h - g) = MX := ⟨_, rfl⟩
          have HMX := Lib.hid hMX
          by_cases d2 : ver ≤ MX
          · have f6 := decide_eq_true d2
            refine d_region (by kernel_rfl) (by kernel_rfl) ?_
            repeat
              first
                | (refine d_plain (by with_reducible rfl) ?_; apply Exists.intro; refine ⟨fun wq hc hq => ?_, ?_⟩)
                | (refine d_on (by with_reducible rfl) (by rfl) (by with_reducible rfl) ?_; apply Exists.intro; refine ⟨fun wq hc hq => ?_, ?_⟩)
                | (refine d_off (by with_reducible rfl) (by rfl) (by rfl) ?_)
                | (refine d_void (by with_reducible rfl) (by rfl) ?_)
              try any_goals
                (have l0 := keep (cls hq) p0; have l1 := keep (cls hq) p1; have l2 := keep (cls hq) q0; have l3 := keep (cls hq) q1; have l4 := keep (cls hq) s0; have l5 := keep (cls hq) s1; clear hc
                 go_simp
                 first
                   | rfl
                   | (go_at_call 20; with_reducible exact call_below hq (SQ1.out _)))
              simp only [Act.put, List.setIfInBounds_toArray, List.set_cons_zero, List.set_cons_succ]
            refine d_nil ?_
            intro w6 hb6
            have W6 := Lib.hid (b_next W5.out hb6)
            go_wp2_with fail
            go_ret
            exact ⟨by first | rfl | exact retb rfl, W6.out⟩
          · have f6 := decide_eq_false d2
            refine d_region (by kernel_rfl) (by kernel_rfl) ?_
            repeat
              first
                | (refine d_plain (by with_reducible rfl) ?_; apply Exists.intro; refine ⟨fun wq hc hq => ?_, ?_⟩)
                | (refine d_on (by with_reducible rfl) (by rfl) (by with_reducible rfl) ?_; apply Exists.intro; refine ⟨fun wq hc hq => ?_, ?_⟩)
                | (refine d_off (by with_reducible rfl) (by rfl) (by rfl) ?_)
                | (refine d_void (by with_reducible rfl) (by rfl) ?_)
              try any_goals
                (have l0 := keep (cls hq) p0; have l1 := keep (cls hq) p1; have l2 := keep (cls hq) q0; have l3 := keep (cls hq) q1; have l4 := keep (cls hq) s0; have l5 := keep (cls hq) s1; clear hc
                 go_simp
                 first
                   | rfl
                   | (go_at_call 20; with_reducible exact call_below hq (SQ1.out _)))
              simp only [Act.put, List.setIfInBounds_toArray, List.set_cons_zero, List.set_cons_succ]
            refine d_nil ?_
            intro w6 hb6
            have W6 := Lib.hid (b_next W5.out hb6); have CL6 := Lib.hid (clv_keep hb6 CL5.out)
            have hex : ∃ c ∈ L, c.A = (I : Int) ∧ c.B = (K : Int) ∧ c.F ≤ u ∧ u ≤ c.T := by
              obtain ⟨c, hc, q⟩ := hit HT.out HSEP.out hik hKM HX.out.1 HY.out.1 HX.out.2 HY.out.2 (by rw [HSS.out, HLL.out]; omega) (show max (g - h) (-(g - h)) < ver by rw [show -(g - h) = h - g by omega, HMX.out]; omega)
              exact ⟨c, HMEM.out c hc, q⟩
            have HEX := Lib.hid hex
            clear hb6 hex p0 p1 q0 q1 s0 s1
            go_wp2_with fail
            go_loopw [152] (fun s wr => ∃ q : Nat, q ≤ L.length ∧ s = .int .i64 q ∧ Nic L I K u q ∧ Below w6.heap.size w6 wr) (fun s _ => L.length - (intOf s).toNat)
            case atStart => exact ⟨0, Nat.zero_le _, rfl, nic_zero _ _ _ _, Below.refl _ _⟩
            case round =>
              obtain ⟨q, hq, rfl, hnic, hbl⟩ := hrel
              have BQ := Lib.hid hbl; have NQ := Lib.hid hnic; clear hbl hnic
              by_cases hltq : q < L.length
              · have hlq : (q : Int) < (L.length : Int) := by omega
                obtain ⟨gb, e, hcells⟩ := clv_at CL6.out (by omega)
                subst e
                obtain ⟨x0, x1, x2, x3⟩ := hcells q hltq
                have x0 := keep BQ.out x0; have x1 := keep BQ.out x1; have x2 := keep BQ.out x2; have x3 := keep BQ.out x3
                have nn := new_ne x0
                have NX : Hid (¬ (L[q].A = (I : Int) ∧ L[q].B = (K : Int) ∧ L[q].F ≤ u ∧ u ≤ L[q].T) → Nic L I K u (q + 1)) := Lib.hid (nic_step hltq NQ.out)
                have BQ1 := Lib.hid (b_next BQ.out (b_alloc (Below.refl wr.heap.size wr) (.cells #[.int .i64 L[q].A, .int .i64 L[q].B, .int .i64 L[q].F, .int .i64 L[q].T] 78)))
                clear hcells
                generalize L[q].A = y0 at *
                generalize L[q].B = y1 at *
                generalize L[q].F = y2 at *
                generalize L[q].T = y3 at *
                by_cases e0 : y0 = (I : Int)
                · subst e0
                  by_cases e1 : y1 = (K : Int)
                  · subst e1
                    by_cases e2 : y2 ≤ u
                    · have k2 := decide_eq_true e2
                      by_cases e3 : u ≤ y3
                      · have k3 := decide_eq_true e3
                        have WF := Lib.hid (b_next W6.out BQ1.out)
                        go_wp2_with fail
                        go_ret
                        exact ⟨by first | rfl | exact retb rfl, WF.out⟩
                      · have k3 := decide_eq_false e3
                        have NY := Lib.hid (NX.out fun h => e3 h.2.2.2)
                        go_wp2_with fail
                        go_roundw
                        case rel => exact ⟨q + 1, by omega, by go_num, NY.out, BQ1.out⟩
                        case measure => simp [intOf]; omega
                    · have k2 := decide_eq_false e2
                      have NY := Lib.hid (NX.out fun h => e2 h.2.2.1)
                      go_wp2_with fail
                      go_roundw
                      case rel => exact ⟨q + 1, by omega, by go_num, NY.out, BQ1.out⟩
                      case measure => simp [intOf]; omega
                  · have k1 : (y1 == (K : Int)) = false := by simpa using e1
                    have NY := Lib.hid (NX.out fun h => e1 h.2.1)
                    go_wp2_with fail
                    go_roundw
                    case rel => exact ⟨q + 1, by omega, by go_num, NY.out, BQ1.out⟩
                    case measure => simp [intOf]; omega
                · have k0 : (y0 == (I : Int)) = false := by simpa using e0
                  have NY := Lib.hid (NX.out fun h => e0 h.1)
                  go_wp2_with fail
                  go_roundw
                  case rel => exact ⟨q + 1, by omega, by go_num, NY.out, BQ1.out⟩
                  case measure => simp [intOf]; omega
              · have hqL : q = L.length := by omega
                exact (nic_end (by rw [← hqL]; exact NQ.out) HEX.out).elim
      · have g1 : (eb != 0) = true := by simpa using heb
        have g2 : (eb == 0) = false := by simpa using heb
        clear heb
        go_wp2_with fail
        go_ret
        exact ⟨by first | rfl | exact retb rfl, W5.out⟩
    · have g1 : (ea != 0) = true := by simpa using hea
      have g2 : (ea == 0) = false := by simpa using hea
      clear hea
      go_wp2_with fail
      go_ret
      exact ⟨by first | rfl | exact retb rfl, W5.out⟩
  · subst hik
    go_wp2_with fail
    all_goals
      go_ret
      exact ⟨by first | rfl | exact retb rfl, W4.out⟩
  · have f1 : ¬ (I : Int) = (K : Int) := by omega
    have f2 : ((I : Int) == (K : Int)) = false := by simpa using f1
    have f3 : (K : Int) < (I : Int) := by omega
    have f4 : decide ((K : Int) < (I : Int)) = true := decide_eq_true f3
    obtain ⟨vb, vo, vc, e, hq1, hq2, h3⟩ := ts_at (ts_keep W4.out HV.out) (show 0 < M by omega)
    injection e with e1 _ e3
    subst e1 e3
    obtain ⟨ua, ca, ta⟩ := h3 K (by omega)
    obtain ⟨ub, cb, tb⟩ := h3 I (by omega)
    have tp := HT.out K (by omega)
    have tn0 := tp.time 0 tp.pos
    obtain ⟨b1, o1, c1, rfl, hn1, hn2, h6⟩ : ∃ b1 o1 c1, ua = .slice (some ⟨b1, o1, none⟩) (D K).n c1 ∧ (D K).n ≤ c1 ∧ c1 ≤ maxLen ∧ w4.cell? ⟨b1, o1, none⟩ = some (.int .i64 ((D K).T 0)) := by
      rcases ta with ⟨h0, -⟩ | ⟨h0, b, off, cap, e, h1, h2, h3⟩
      · have := tp.pos; omega
      · have q := (h3 0 h0).1
        rw [Nat.zero_mul, Nat.add_zero] at q
        exact ⟨b, off, cap, e, h1, h2, q.1⟩
    have hn3 : c1 ≤ 9223372036854775807 := Nat.le_trans hn2 (by decide)
    have hpos := tp.pos
    have hposi : (0 : Int) < ((D K).n : Int) := by omega
    obtain ⟨A2, c2, rfl, -, -⟩ := tv_slice tb
    have tm1 := Int.tmod_lt_of_pos t0 (show (0 : Int) < 1200 by decide)
    have tm2 := Int.lt_tmod_of_pos t0 (show (0 : Int) < 1200 by decide)
    obtain ⟨u, hu⟩ : ∃ u, (D K).T 0 + t0.tmod 1200 % 1200 = u := ⟨_, rfl⟩
    have HTA := Lib.hid ta; have HTB := Lib.hid tb
    clear h3 ta tb
    go_wp2_with fail
    have CA := Lib.hid ca; have CB := Lib.hid cb
    obtain ⟨ba, ea, HA, hxa⟩ := hasX HTA.out u px py g
    obtain ⟨bb, eb, HB, hxb⟩ := hasX HTB.out u qx qy h
    have HAh := Lib.hid HA; have HBh := Lib.hid HB; have XA := Lib.hid hxa; have XB := Lib.hid hxb
    clear HA HB hxa hxb ca cb
    go_region_held3 (fun w' => w'.cell? ⟨vb, vo + K, none⟩ = some (.slice (some ⟨b1, o1, none⟩) (D K).n c1) ∧ w'.cell? ⟨n0 + 1, 0, none⟩ = some (.int .i64 px) ∧ w'.cell? ⟨n0 + 1, 1, none⟩ = some (.int .i64 py) ∧ Below w4.heap.size w4 w')
      (first
        | exact ⟨CA.out, P4.out.1, P4.out.2, (Below.refl _ _).drew⟩
        | exact ⟨keep hb9 CA.out, keep hb9 P4.out.1, keep hb9 P4.out.2, hb9⟩
        | assumption)
      ((first
        | (go_at_call 19; refine (HAh.out _ (b_drew (Below.refl _ _))).mono ?_; rintro e w9 ⟨rfl, hb9'⟩; have hb9 := b_next (b_drew (Below.refl w4.heap.size w4)) hb9'; clear hb9')))
    have W9 := Lib.hid (b_next W4.out hb9); have S9 := Lib.hid (p2_keep hb9 S4.out); have P9 := Lib.hid (p2_keep hb9 P4.out); have Q9 := Lib.hid (p2_keep hb9 Q4.out); have CL9 := Lib.hid (clv_keep hb9 CL4.out)
    have CB9 := Lib.hid (keep hb9 CB.out)
    have HB9 := Lib.hid fun (w1 : World) (hb : Below w9.heap.size w9 w1) => HBh.out w1 (b_next hb9 hb)
    clear hb9 S4 P4 Q4 CL4 HAh CA CB HBh
    go_wp2_with fail
    go_region_held3 (fun w' => w'.cell? ⟨vb, vo + I, none⟩ = some (.slice A2 (D I).n c2) ∧ w'.cell? ⟨n0 + 1 + 1, 0, none⟩ = some (.int .i64 qx) ∧ w'.cell? ⟨n0 + 1 + 1, 1, none⟩ = some (.int .i64 qy) ∧ Below w9.heap.size w9 w')
      (first
        | exact ⟨CB9.out, Q9.out.1, Q9.out.2, (Below.refl _ _).drew⟩
        | exact ⟨keep hb5 CB9.out, keep hb5 Q9.out.1, keep hb5 Q9.out.2, hb5⟩
        | assumption)
      ((first
        | (go_at_call 19; refine (HB9.out _ (b_drew (Below.refl _ _))).mono ?_; rintro e w5 ⟨rfl, hb5'⟩; have hb5 := b_next (b_drew (Below.refl w9.heap.size w9)) hb5'; clear hb5')))
    have W5 := Lib.hid (b_next W9.out hb5); have S5 := Lib.hid (p2_keep hb5 S9.out); have P5 := Lib.hid (p2_keep hb5 P9.out); have Q5 := Lib.hid (p2_keep hb5 Q9.out); have CL5 := Lib.hid (clv_keep hb5 CL9.out)
    clear hb5 S9 P9 Q9 CL9 CB9 HB9
    by_cases hea : ea = 0
    · subst hea
      by_cases heb : eb = 0
      · subst heb
        cases ba with
        | false =>
          go_wp2_with fail
          go_ret
          exact ⟨by first | rfl | exact retb rfl, W5.out⟩
        | true =>
        cases bb with
        | false =>
          go_wp2_with fail
          go_ret
          exact ⟨by first | rfl | exact retb rfl, W5.out⟩
        | true =>
        have HX := Lib.hid (XA.out rfl rfl); have HY := Lib.hid (XB.out rfl rfl)
        clear XA XB
        obtain ⟨p0, p1⟩ := P5.out; obtain ⟨q0, q1⟩ := Q5.out; obtain ⟨s0, s1⟩ := S5.out
        go_wp2_with fail
        obtain ⟨-, ck1, hg0, hg1⟩ := hasE_zero HX.out.1
        obtain ⟨-, ck2, hh0, hh1⟩ := hasE_zero HY.out.1
        have gd1 := good_of ck1; have gd2 := good_of ck2
        have SQ1 := Lib.hid fun (w1 : World) => square px py qx qy w1 rfl (by unfold good at *; omega)
        have hsb : (0 ≤ lat ∧ lat ≤ 1000000) ∧ 0 ≤ ver ∧ ver ≤ 60000 := by
          have := HSEP.out; unfold sepE at this; split at this <;> omega
        have hll : 0 ≤ lat * lat ∧ lat * lat ≤ 1000000 * 1000000 := ⟨Int.mul_nonneg hsb.1.1 hsb.1.1, Int.mul_le_mul hsb.1.2 hsb.1.2 hsb.1.1 (by decide)⟩
        obtain ⟨LL, hLL⟩ : ∃ LL, lat * lat = LL := ⟨_, rfl⟩
        have hwl : IntKind.i64.wrap (lat * lat) = LL := by rw [hLL]; rw [hLL] at hll; exact IntWalk.i64_in _ (by omega)
        obtain ⟨SS, hSS⟩ : ∃ SS, sqr px py qx qy = SS := ⟨_, rfl⟩
        rw [hSS] at SQ1
        have HLL := Lib.hid hLL; have HSS := Lib.hid hSS
        clear hLL hSS hll gd1 gd2 ck1 ck2
        by_cases d1 : LL ≤ SS
        · have f5 := decide_eq_true d1
          refine d_region (by kernel_rfl) (by kernel_rfl) ?_
          repeat
            first
              | (refine d_plain (by with_reducible rfl) ?_; apply Exists.intro; refine ⟨fun wq hc hq => ?_, ?_⟩)
              | (refine d_on (by with_reducible rfl) (by rfl) (by with_reducible rfl) ?_; apply Exists.intro; refine ⟨fun wq hc hq => ?_, ?_⟩)
              | (refine d_off (by with_reducible rfl) (by rfl) (by rfl) ?_)
              | (refine d_void (by with_reducible rfl) (by rfl) ?_)
            try any_goals
              (have l0 := keep (cls hq) p0; have l1 := keep (cls hq) p1; have l2 := keep (cls hq) q0; have l3 := keep (cls hq) q1; have l4 := keep (cls hq) s0; have l5 := keep (cls hq) s1; clear hc
               go_simp
               first
                 | rfl
                 | (go_at_call 20; with_reducible exact call_below hq (SQ1.out _)))
            simp only [Act.put, List.setIfInBounds_toArray, List.set_cons_zero, List.set_cons_succ]
          refine d_nil ?_
          intro w6 hb6
          have W6 := Lib.hid (b_next W5.out hb6)
          go_wp2_with fail
          go_ret
          exact ⟨by first | rfl | exact retb rfl, W6.out⟩
        · have f5 := decide_eq_false d1
          have wg : IntKind.i64.wrap (g - h) = g - h := IntWalk.i64_in _ (by omega)
          have wh : IntKind.i64.wrap (h - g) = h - g := IntWalk.i64_in _ (by omega)
          obtain ⟨MX, hMX⟩ : ∃ MX, max (g - h) (h - g) = MX := ⟨_, rfl⟩
          have HMX := Lib.hid hMX
          by_cases d2 : ver ≤ MX
          · have f6 := decide_eq_true d2
            refine d_region (by kernel_rfl) (by kernel_rfl) ?_
            repeat
              first
                | (refine d_plain (by with_reducible rfl) ?_; apply Exists.intro; refine ⟨fun wq hc hq => ?_, ?_⟩)
                | (refine d_on (by with_reducible rfl) (by rfl) (by with_reducible rfl) ?_; apply Exists.intro; refine ⟨fun wq hc hq => ?_, ?_⟩)
                | (refine d_off (by with_reducible rfl) (by rfl) (by rfl) ?_)
                | (refine d_void (by with_reducible rfl) (by rfl) ?_)
              try any_goals
                (have l0 := keep (cls hq) p0; have l1 := keep (cls hq) p1; have l2 := keep (cls hq) q0; have l3 := keep (cls hq) q1; have l4 := keep (cls hq) s0; have l5 := keep (cls hq) s1; clear hc
                 go_simp
                 first
                   | rfl
                   | (go_at_call 20; with_reducible exact call_below hq (SQ1.out _)))
              simp only [Act.put, List.setIfInBounds_toArray, List.set_cons_zero, List.set_cons_succ]
            refine d_nil ?_
            intro w6 hb6
            have W6 := Lib.hid (b_next W5.out hb6)
            go_wp2_with fail
            go_ret
            exact ⟨by first | rfl | exact retb rfl, W6.out⟩
          · have f6 := decide_eq_false d2
            refine d_region (by kernel_rfl) (by kernel_rfl) ?_
            repeat
              first
                | (refine d_plain (by with_reducible rfl) ?_; apply Exists.intro; refine ⟨fun wq hc hq => ?_, ?_⟩)
                | (refine d_on (by with_reducible rfl) (by rfl) (by with_reducible rfl) ?_; apply Exists.intro; refine ⟨fun wq hc hq => ?_, ?_⟩)
                | (refine d_off (by with_reducible rfl) (by rfl) (by rfl) ?_)
                | (refine d_void (by with_reducible rfl) (by rfl) ?_)
              try any_goals
                (have l0 := keep (cls hq) p0; have l1 := keep (cls hq) p1; have l2 := keep (cls hq) q0; have l3 := keep (cls hq) q1; have l4 := keep (cls hq) s0; have l5 := keep (cls hq) s1; clear hc
                 go_simp
                 first
                   | rfl
                   | (go_at_call 20; with_reducible exact call_below hq (SQ1.out _)))
              simp only [Act.put, List.setIfInBounds_toArray, List.set_cons_zero, List.set_cons_succ]
            refine d_nil ?_
            intro w6 hb6
            have W6 := Lib.hid (b_next W5.out hb6); have CL6 := Lib.hid (clv_keep hb6 CL5.out)
            have hex : ∃ c ∈ L, c.A = (K : Int) ∧ c.B = (I : Int) ∧ c.F ≤ u ∧ u ≤ c.T := by
              obtain ⟨c, hc, q⟩ := hit HT.out HSEP.out hik hIM HX.out.1 HY.out.1 HX.out.2 HY.out.2 (by rw [HSS.out, HLL.out]; omega) (show max (g - h) (-(g - h)) < ver by rw [show -(g - h) = h - g by omega, HMX.out]; omega)
              exact ⟨c, HMEM.out c hc, q⟩
            have HEX := Lib.hid hex
            clear hb6 hex p0 p1 q0 q1 s0 s1
            go_wp2_with fail
            go_loopw [152] (fun s wr => ∃ q : Nat, q ≤ L.length ∧ s = .int .i64 q ∧ Nic L K I u q ∧ Below w6.heap.size w6 wr) (fun s _ => L.length - (intOf s).toNat)
            case atStart => exact ⟨0, Nat.zero_le _, rfl, nic_zero _ _ _ _, Below.refl _ _⟩
            case round =>
              obtain ⟨q, hq, rfl, hnic, hbl⟩ := hrel
              have BQ := Lib.hid hbl; have NQ := Lib.hid hnic; clear hbl hnic
              by_cases hltq : q < L.length
              · have hlq : (q : Int) < (L.length : Int) := by omega
                obtain ⟨gb, e, hcells⟩ := clv_at CL6.out (by omega)
                subst e
                obtain ⟨x0, x1, x2, x3⟩ := hcells q hltq
                have x0 := keep BQ.out x0; have x1 := keep BQ.out x1; have x2 := keep BQ.out x2; have x3 := keep BQ.out x3
                have nn := new_ne x0
                have NX : Hid (¬ (L[q].A = (K : Int) ∧ L[q].B = (I : Int) ∧ L[q].F ≤ u ∧ u ≤ L[q].T) → Nic L K I u (q + 1)) := Lib.hid (nic_step hltq NQ.out)
                have BQ1 := Lib.hid (b_next BQ.out (b_alloc (Below.refl wr.heap.size wr) (.cells #[.int .i64 L[q].A, .int .i64 L[q].B, .int .i64 L[q].F, .int .i64 L[q].T] 78)))
                clear hcells
                generalize L[q].A = y0 at *
                generalize L[q].B = y1 at *
                generalize L[q].F = y2 at *
                generalize L[q].T = y3 at *
                by_cases e0 : y0 = (K : Int)
                · subst e0
                  by_cases e1 : y1 = (I : Int)
                  · subst e1
                    by_cases e2 : y2 ≤ u
                    · have k2 := decide_eq_true e2
                      by_cases e3 : u ≤ y3
                      · have k3 := decide_eq_true e3
                        have WF := Lib.hid (b_next W6.out BQ1.out)
                        go_wp2_with fail
                        go_ret
                        exact ⟨by first | rfl | exact retb rfl, WF.out⟩
                      · have k3 := decide_eq_false e3
                        have NY := Lib.hid (NX.out fun h => e3 h.2.2.2)
                        go_wp2_with fail
                        go_roundw
                        case rel => exact ⟨q + 1, by omega, by go_num, NY.out, BQ1.out⟩
                        case measure => simp [intOf]; omega
                    · have k2 := decide_eq_false e2
                      have NY := Lib.hid (NX.out fun h => e2 h.2.2.1)
                      go_wp2_with fail
                      go_roundw
                      case rel => exact ⟨q + 1, by omega, by go_num, NY.out, BQ1.out⟩
                      case measure => simp [intOf]; omega
                  · have k1 : (y1 == (I : Int)) = false := by simpa using e1
                    have NY := Lib.hid (NX.out fun h => e1 h.2.1)
                    go_wp2_with fail
                    go_roundw
                    case rel => exact ⟨q + 1, by omega, by go_num, NY.out, BQ1.out⟩
                    case measure => simp [intOf]; omega
                · have k0 : (y0 == (K : Int)) = false := by simpa using e0
                  have NY := Lib.hid (NX.out fun h => e0 h.1)
                  go_wp2_with fail
                  go_roundw
                  case rel => exact ⟨q + 1, by omega, by go_num, NY.out, BQ1.out⟩
                  case measure => simp [intOf]; omega
              · have hqL : q = L.length := by omega
                exact (nic_end (by rw [← hqL]; exact NQ.out) HEX.out).elim
      · have g1 : (eb != 0) = true := by simpa using heb
        have g2 : (eb == 0) = false := by simpa using heb
        clear heb
        go_wp2_with fail
        go_ret
        exact ⟨by first | rfl | exact retb rfl, W5.out⟩
    · have g1 : (ea != 0) = true := by simpa using hea
      have g2 : (ea == 0) = false := by simpa using hea
      clear hea
      go_wp2_with fail
      go_ret
      exact ⟨by first | rfl | exact retb rfl, W5.out⟩
theorem walk (l : Value) (s_lat : Int) (s_vert : Int) (i : Int) (k : Int) (t : Int) (p_x : Int) (p_y : Int) (q_x : Int) (q_y : Int) (g : Int) (h : Int) (W : World) (hL : laidMetH Tryz.prog Door.laid W) (h_l : Frame.Okc W (.sl [.sl [.int, .int, .int, .int, .int, .int]]) l) (_h_s_lat : -9223372036854775808 ≤ s_lat ∧ s_lat ≤ 9223372036854775807) (_h_s_vert : -9223372036854775808 ≤ s_vert ∧ s_vert ≤ 9223372036854775807) (_h_i : -9223372036854775808 ≤ i ∧ i ≤ 9223372036854775807) (_h_k : -9223372036854775808 ≤ k ∧ k ≤ 9223372036854775807) (_h_t : -9223372036854775808 ≤ t ∧ t ≤ 9223372036854775807) (_h_p_x : -9223372036854775808 ≤ p_x ∧ p_x ≤ 9223372036854775807) (_h_p_y : -9223372036854775808 ≤ p_y ∧ p_y ≤ 9223372036854775807) (_h_q_x : -9223372036854775808 ≤ q_x ∧ q_x ≤ 9223372036854775807) (_h_q_y : -9223372036854775808 ≤ q_y ∧ q_y ≤ 9223372036854775807) (_h_g : -9223372036854775808 ≤ g ∧ g ≤ 9223372036854775807) (_h_h : -9223372036854775808 ≤ h ∧ h ≤ 9223372036854775807) :
    Calls Tryz.prog 5 #[l, .agg #[.int .i64 s_lat, .int .i64 s_vert], .int .i64 i, .int .i64 k, .int .i64 t, .agg #[.int .i64 p_x, .int .i64 p_y], .agg #[.int .i64 q_x, .int .i64 q_y], .int .i64 g, .int .i64 h] W fun e w' => e = .returned (.bool true) ∧ Below W.heap.size W w' := by
  have TB := Door.tabs_of hL
  have WK := fun w1 (hb : Below W.heap.size W w1) => Top.h05Works (Ang.tabs_keep hb TB)
  obtain ⟨m, D, hv⟩ := ts_of h_l
  have hv' := hv
  obtain ⟨A, c, rfl, h1, h2⟩ := ts_slice hv
  have hmin : min m 4 ≤ m := Nat.min_le_left _ _
  have hV : TsV W (.slice A (min m 4) c) (min m 4) D := by
    rcases Nat.eq_zero_or_pos m with rfl | h0
    · exact hv'
    · exact ts_take hv' hmin h2 h0
  exact core A m (min m 4) c D s_lat s_vert i k t p_x p_y q_x q_y g h W (Nat.min_le_right _ _) (by omega) hmin h1 h2 (Lib.hid hV) (Lib.hid WK)
-- FRAME --

set_option maxRecDepth 100000 in
theorem lifted (os : Os) (started : os.Started) (H : Type) (enc : TypeId × Value → H) :
    ReturnsInHanded {} Tryz.checked os 5 .any (fun w args => (Rows.topProbeNeverMissesSpec.pre enc Tryz.prog Tryz.f5 [] false w args ∧ laidMetH Tryz.prog Door.laid w) ∧ sizedMet enc Tryz.prog Tryz.f5 (OpenSpec.ofChange Rows.topProbeNeverMissesSpec) false w args) (Rows.topProbeNeverMissesSpec.post enc Tryz.prog Tryz.f5 false true false false) :=
  Frame.lifted_laid (C := Tryz.checked) 5 Tryz.f5 Tryz.own started (by kernel_rfl) Tryz.func5 Tryz.laidOut rfl (by kernel_rfl) 4 rfl Tryz.underlying4
      (fun ds h => by match ds, h with | [_, _, _, _, _, _, _, _, _], _ => rfl)
      (ChangeSpec.witness_at (enc := enc) (C := Tryz.checked) (os := os) (X := fun w _ => laidMetH Tryz.prog Door.laid w) false (Door.laidWorld os) #[.slice none 0 0, .agg #[.int .i64 0, .int .i64 0], .int .i64 0, .int .i64 0, .int .i64 0, .agg #[.int .i64 0, .int .i64 0], .agg #[.int .i64 0, .int .i64 0], .int .i64 0, .int .i64 0] 8 rfl (by kernel_rfl) (by kernel_rfl) (by kernel_rfl) (by kernel_rfl) (by kernel_rfl) (Door.laidWorld_met os _))
      (fun W base args ds ps hval0 hA _ hL => by
        have hval : ∀ (j : Nat) t v, Tryz.f5.params[j]? = some t → args[j]? = some v → Value.okWide Tryz.prog W .any base t v := hval0
        have hA' : DataW.TrodAll enc Tryz.prog W 0 (fun _ => true) true Tryz.f5.params.toList args.toList ds ps := hA
        clear hval0 hA
        have hA := hA'
        clear hA'
        rw [Tryz.params5] at hA hval
        obtain ⟨v0, vs0, d0, ds0, p0, q0, ea, rfl, rfl, tr0, rest0⟩ := trodAll_cons hA
        obtain ⟨v1, vs1, d1, ds1, p1, q1, rfl, rfl, rfl, tr1, rest1⟩ := trodAll_cons rest0
        obtain ⟨v2, vs2, d2, ds2, p2, q2, rfl, rfl, rfl, tr2, rest2⟩ := trodAll_cons rest1
        obtain ⟨v3, vs3, d3, ds3, p3, q3, rfl, rfl, rfl, tr3, rest3⟩ := trodAll_cons rest2
        obtain ⟨v4, vs4, d4, ds4, p4, q4, rfl, rfl, rfl, tr4, rest4⟩ := trodAll_cons rest3
        obtain ⟨v5, vs5, d5, ds5, p5, q5, rfl, rfl, rfl, tr5, rest5⟩ := trodAll_cons rest4
        obtain ⟨v6, vs6, d6, ds6, p6, q6, rfl, rfl, rfl, tr6, rest6⟩ := trodAll_cons rest5
        obtain ⟨v7, vs7, d7, ds7, p7, q7, rfl, rfl, rfl, tr7, rest7⟩ := trodAll_cons rest6
        obtain ⟨v8, vs8, d8, ds8, p8, q8, rfl, rfl, rfl, tr8, rest8⟩ := trodAll_cons rest7
        obtain ⟨rfl, rfl, rfl⟩ := trodAll_nil rest8
        obtain rfl : args = #[v0, v1, v2, v3, v4, v5, v6, v7, v8] := by cases args; simp_all
        clear ea
        have sl_l : Frame.Okc W (.sl [.sl [.int, .int, .int, .int, .int, .int]]) v0 := by obtain ⟨a, l, c, e⟩ := okWide_slice Tryz.underlying69 (hval 0 _ v0 rfl rfl); exact Frame.arg_cell (k := 8) (by kernel_rfl) (by have e2 : v0 = .slice a l c := e; rw [e2]; rfl) tr0
        obtain ⟨cs_s, e_s, hl_s, hc_s⟩ := Frame.arg_agg Tryz.underlying25 (k := 8) (ks := [.int, .int]) (by kernel_rfl) (hval 1 _ v1 rfl rfl) tr1
        subst e_s
        obtain ⟨c_s_lat, c_s_vert, rfl⟩ : ∃ c_s_lat c_s_vert, cs_s = [c_s_lat, c_s_vert] := by match cs_s, hl_s with | [x0, x1], _ => exact ⟨x0, x1, rfl⟩
        have o_s_lat : Frame.Okc W (.int) c_s_lat := hc_s 0 (by decide) (by simp)
        obtain ⟨s_lat, e_s_lat, w_s_lat⟩ := o_s_lat.int_inv; subst e_s_lat
        have o_s_vert : Frame.Okc W (.int) c_s_vert := hc_s 1 (by decide) (by simp)
        obtain ⟨s_vert, e_s_vert, w_s_vert⟩ := o_s_vert.int_inv; subst e_s_vert
        obtain ⟨i, rfl, w_i⟩ := Frame.arg_int Tryz.underlying3 (hval 2 _ v2 rfl rfl)
        obtain ⟨k, rfl, w_k⟩ := Frame.arg_int Tryz.underlying3 (hval 3 _ v3 rfl rfl)
        obtain ⟨t, rfl, w_t⟩ := Frame.arg_int Tryz.underlying3 (hval 4 _ v4 rfl rfl)
        obtain ⟨cs_p, e_p, hl_p, hc_p⟩ := Frame.arg_agg Tryz.underlying54 (k := 8) (ks := [.int, .int]) (by kernel_rfl) (hval 5 _ v5 rfl rfl) tr5
        subst e_p
        obtain ⟨c_p_x, c_p_y, rfl⟩ : ∃ c_p_x c_p_y, cs_p = [c_p_x, c_p_y] := by match cs_p, hl_p with | [x0, x1], _ => exact ⟨x0, x1, rfl⟩
        have o_p_x : Frame.Okc W (.int) c_p_x := hc_p 0 (by decide) (by simp)
        obtain ⟨p_x, e_p_x, w_p_x⟩ := o_p_x.int_inv; subst e_p_x
        have o_p_y : Frame.Okc W (.int) c_p_y := hc_p 1 (by decide) (by simp)
        obtain ⟨p_y, e_p_y, w_p_y⟩ := o_p_y.int_inv; subst e_p_y
        obtain ⟨cs_q, e_q, hl_q, hc_q⟩ := Frame.arg_agg Tryz.underlying54 (k := 8) (ks := [.int, .int]) (by kernel_rfl) (hval 6 _ v6 rfl rfl) tr6
        subst e_q
        obtain ⟨c_q_x, c_q_y, rfl⟩ : ∃ c_q_x c_q_y, cs_q = [c_q_x, c_q_y] := by match cs_q, hl_q with | [x0, x1], _ => exact ⟨x0, x1, rfl⟩
        have o_q_x : Frame.Okc W (.int) c_q_x := hc_q 0 (by decide) (by simp)
        obtain ⟨q_x, e_q_x, w_q_x⟩ := o_q_x.int_inv; subst e_q_x
        have o_q_y : Frame.Okc W (.int) c_q_y := hc_q 1 (by decide) (by simp)
        obtain ⟨q_y, e_q_y, w_q_y⟩ := o_q_y.int_inv; subst e_q_y
        obtain ⟨g, rfl, w_g⟩ := Frame.arg_int Tryz.underlying3 (hval 7 _ v7 rfl rfl)
        obtain ⟨h, rfl, w_h⟩ := Frame.arg_int Tryz.underlying3 (hval 8 _ v8 rfl rfl)
        exact walk v0 s_lat s_vert i k t p_x p_y q_x q_y g h W hL sl_l w_s_lat w_s_vert (Frame.bd w_i) (Frame.bd w_k) (Frame.bd w_t) w_p_x w_p_y w_q_x w_q_y (Frame.bd w_g) (Frame.bd w_h))

/-- The statement. -/
theorem row_holds : Rows.TopProbeNeverMissesSaid :=
  OpenClaim.holds_of_wide 5 Tryz.f5 rfl rfl rfl rfl rfl rfl rfl ⟨rfl, rfl, rfl, rfl, rfl⟩ rfl rfl rfl rfl rfl (by kernel_rfl) Tryz.func5 (by kernel_rfl)
    (of_decide_eq_true (by kernel_rfl)) (by unfold Func.isWrapper; first | (rw [if_pos (by decide +kernel)]; kernel_rfl) | (rw [if_neg (by decide +kernel)]; exact ⟨rfl, rfl⟩))
    (fun os started H enc _ => lifted os started H enc)
/-- The tied card. -/
theorem proved : Rows.TopProbeNeverMissesCardSaid :=
  Claim7.holds_tied_plain_at .later [] [.data, .data, .data] true (true, "5d56dae4b2a688e5e654a1984c708b89ba408b22c31bf1e299093b9bc00c5a55") true
    row_holds (fun _ h => by cases h) (by kernel_rfl) (fun _ h => by cases h) topProbeNeverMisses_row_tie rfl ⟨rfl, rfl⟩ (by kernel_rfl) rfl
    (fun f fn hf hfn => by
      obtain rfl : f = 5 := Option.some.inj ((show Tryz.prog.funcNamed "skyway/skywaytop.TopProbeNeverMisses" = some 5 by kernel_rfl).symm.trans hf) |>.symm
      obtain rfl : fn = Tryz.f5 := (Option.some.inj (Tryz.func5.symm.trans hfn)).symm
      exact ⟨by kernel_rfl, fun j t ht => by
        rw [Tryz.params5] at ht
        have hall : ∀ t ∈ [69, 25, 3, 3, 3, 54, 54, 3, 3], Tryz.prog.wantsStandIn t = false := by
          intro t ht
          simp only [List.mem_cons, List.not_mem_nil, or_false] at ht
          rcases ht with rfl | rfl | rfl | rfl | rfl | rfl | rfl | rfl | rfl <;> kernel_rfl
        exact hall t (List.mem_iff_getElem?.2 ⟨j, by simpa using ht⟩)⟩)
    (by kernel_rfl)
#print axioms proved
end TopProbeNeverMisses
end Go.Proofs.YteieagihdflapaaGreatDoor

