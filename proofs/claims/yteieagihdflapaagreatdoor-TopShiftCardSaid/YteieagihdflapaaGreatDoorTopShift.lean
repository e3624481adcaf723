/- TopShift: tubes that are moved and delayed together have the same clashes, delayed. For every input, where math's tables read as Go's library lays them. -/
import Derived.Test.YteieagihdflapaaGreatDoorTopH
import Derived.Test.YteieagihdflapaaGreatDoorJ35
import Derived.Test.YteieagihdflapaaGreatDoorJ37
import Derived.Test.YteieagihdflapaaGreatDoorJ36
import Derived.Test.YteieagihdflapaaGreatDoorShP
import Derived.Test.YteieagihdflapaaGreatDoorJ34
import Derived.Test.YteieagihdflapaaGreatDoorJ27
import Derived.Test.YteieagihdflapaaGreatDoorDoorA
import Derived.Test.YteieagihdflapaaGreatDoorJ07
import Derived.Test.YteieagihdflapaaGreatDoorCards
namespace Go.Proofs.YteieagihdflapaaGreatDoor
open Go.RowKit Go.ChangeShapes Go.WideShapes
namespace TopShift
open Kit Plane Tube Probe ShP
theorem clv_slice {w : World} {v : Value} {L : List Ck} (h : CLV w v L) : ∃ A cap, v = .slice A L.length cap ∧ L.length ≤ cap ∧ cap ≤ maxLen := by
  rcases h with ⟨rfl, rfl | ⟨a, cap, rfl, hm⟩⟩ | ⟨h0, b, cap, rfl, h1, h2, h3⟩
  · exact ⟨_, _, rfl, Nat.le_refl _, Nat.zero_le _⟩
  · exact ⟨_, _, rfl, Nat.zero_le _, hm⟩
  · exact ⟨_, _, rfl, h1, h2⟩
theorem clv_at {w : World} {A : Option Addr} {cap : Nat} {L : List Ck} (h : CLV w (.slice A L.length cap) L) (h0 : 0 < L.length) : ∃ b, A = some ⟨b, 0, none⟩ ∧ ∀ k (h : k < L.length),
    w.cell? ⟨b, k * 4, none⟩ = some (.int .i64 L[k].A) ∧ w.cell? ⟨b, k * 4 + 1, none⟩ = some (.int .i64 L[k].B) ∧ w.cell? ⟨b, k * 4 + 2, none⟩ = some (.int .i64 L[k].F) ∧ w.cell? ⟨b, k * 4 + 3, none⟩ = some (.int .i64 L[k].T) := by
  rcases h with ⟨rfl, -⟩ | ⟨-, b, cap', e, -, -, h3⟩
  · exact absurd h0 (Nat.not_lt_zero 0)
  · injection e with e1
    exact ⟨b, e1, h3⟩

set_option maxRecDepth 100000 in
set_option maxHeartbeats 4000000 in
theorem long_any (b m c : Nat) (vs : Nat → Value) (w : World) (h0 : m ≤ c) (hm : c ≤ 9223372036854775807) (HV : Hid (∀ k, k < m → w.cell? ⟨b, k, none⟩ = some (vs k) ∧ IsT w (vs k))) :
    Calls Tryz.prog 10 #[.slice (some ⟨b, 0, none⟩) m c] w fun e w' => AnyB e ∧ Below w.heap.size w w' := by
  go_enter Tryz.func10, Tryz.ntmps10
  go_wp2_with fail
  go_loopw [7] (fun s wr => ∃ k : Nat, k ≤ m ∧ s = .int .i64 k ∧ Below w.heap.size w wr) (fun s _ => m - (intOf s).toNat)
  case atStart => exact ⟨0, Nat.zero_le _, rfl, Below.refl _ _⟩
  case round =>
    obtain ⟨k, hk, rfl, hbl⟩ := hrel
    by_cases hlt : k < m
    · have hl : (k : Int) < (m : Int) := by omega
      obtain ⟨hcell, n, T, X, Y, H, R, B, htv⟩ := HV.out k hlt
      have hcell := keep hbl hcell
      have htv := tv_keep hbl htv
      obtain ⟨A, cap, hv, hnc, hcap⟩ := tv_slice htv
      rw [hv] at hcell htv
      have hcap' : cap ≤ 9223372036854775807 := Nat.le_trans hcap (by decide)
      clear hv hcap
      have HTV := Lib.hid htv; have HB := Lib.hid hbl; clear htv hbl
      by_cases d1 : 12 < (n : Int)
      · have e1 := decide_eq_true d1
        go_wp2_with fail
        refine d_region (by kernel_rfl) (by kernel_rfl) ?_
        repeat
          first
            | (refine d_plain (by with_reducible rfl) ?_; apply Exists.intro; refine ⟨fun wq hc hq => ?_, ?_⟩)
            | (refine d_on (by with_reducible rfl) (by rfl) (by with_reducible rfl) ?_; apply Exists.intro; refine ⟨fun wq hc hq => ?_, ?_⟩)
            | (refine d_off (by with_reducible rfl) (by rfl) (by rfl) ?_)
            | (refine d_void (by with_reducible rfl) (by rfl) ?_)
          try any_goals
            (have q0 := keep (cls hq) hcell; clear hc
             go_simp
             first
               | rfl)
          simp only [Act.put, List.setIfInBounds_toArray, List.set_cons_zero, List.set_cons_succ]
        refine d_nil ?_
        intro w1 hb1
        go_wp2_with fail
        go_ret
        exact ⟨⟨true, rfl⟩, b_next HB.out hb1⟩
      · have e1 := decide_eq_false d1
        by_cases d2 : 0 < (n : Int)
        · have e2 := decide_eq_true d2
          have hn0 : 0 < n := by omega
          have e2' : decide (0 < n) = true := decide_eq_true hn0
          have hr : ∃ b' off, A = some ⟨b', off, none⟩ ∧ ∀ k, k < n → S6 wr b' (off + k * 6) (T k) (X k) (Y k) (H k) (R k) (B k) := by
            rcases HTV.out with ⟨h, -⟩ | ⟨-, b', off, cap', he, -, -, h3⟩
            · omega
            · injection he with h4; exact ⟨b', off, h4, h3⟩
          obtain ⟨b', off, rfl, h3⟩ := hr
          have E0 := Lib.hid (h3 0 (by omega)); have E1 := Lib.hid (h3 (n - 1) (by omega)); clear h3
          have u1 : IntKind.i64.wrap ((n : Int) - 1) = ((n - 1 : Nat) : Int) := by rw [IntWalk.i64_in _ (by omega)]; omega
          have u2 : ((n - 1 : Nat) : Int) < (n : Int) := by omega
          go_wp2_with fail
          refine d_region (by kernel_rfl) (by kernel_rfl) ?_
          repeat
            first
              | (refine d_plain (by with_reducible rfl) ?_; apply Exists.intro; refine ⟨fun wq hc hq => ?_, ?_⟩)
              | (refine d_on (by with_reducible rfl) (by rfl) (by with_reducible rfl) ?_; apply Exists.intro; refine ⟨fun wq hc hq => ?_, ?_⟩)
              | (refine d_off (by with_reducible rfl) (by rfl) (by rfl) ?_)
              | (refine d_void (by with_reducible rfl) (by rfl) ?_)
            try any_goals
              (have q0 := s6_keep (cls hq) E0.out; have q1 := s6_keep (cls hq) E1.out; rw [Nat.zero_mul, Nat.add_zero] at q0; clear hc
               go_simp
               first
                 | rfl)
            simp only [Act.put, List.setIfInBounds_toArray, List.set_cons_zero, List.set_cons_succ]
          refine d_nil ?_
          intro w1 hb1
          have HB1 := Lib.hid (b_next HB.out hb1); clear hb1
          by_cases d3 : 1200 < IntKind.i64.wrap (T (n - 1) - T 0)
          · have e3 := decide_eq_true d3
            go_wp2_with fail
            go_ret
            exact ⟨⟨true, rfl⟩, HB1.out⟩
          · have e3 := decide_eq_false d3
            go_wp2_with fail
            exact ⟨⟨k + 1, by omega, by go_num, HB1.out⟩, by simp [intOf]; omega⟩
        · have e2 := decide_eq_false d2
          have e2' : decide (0 < n) = false := decide_eq_false (by omega)
          go_wp2_with fail
          refine d_region (by kernel_rfl) (by kernel_rfl) ?_
          repeat
            first
              | (refine d_plain (by with_reducible rfl) ?_; apply Exists.intro; refine ⟨fun wq hc hq => ?_, ?_⟩)
              | (refine d_on (by with_reducible rfl) (by rfl) (by with_reducible rfl) ?_; apply Exists.intro; refine ⟨fun wq hc hq => ?_, ?_⟩)
              | (refine d_off (by with_reducible rfl) (by rfl) (by rfl) ?_)
              | (refine d_void (by with_reducible rfl) (by rfl) ?_)
            try any_goals
              (have q0 := keep (cls hq) hcell; clear hc
               go_simp
               first
                 | rfl)
            simp only [Act.put, List.setIfInBounds_toArray, List.set_cons_zero, List.set_cons_succ]
          refine d_nil ?_
          intro w1 hb1
          have HB1 := Lib.hid (b_next HB.out hb1); clear hb1
          go_wp2_with fail
          exact ⟨⟨k + 1, by omega, by go_num, HB1.out⟩, by simp [intOf]; omega⟩
    · have hl : ¬ (k : Int) < (m : Int) := by omega
      go_wp2_with fail
      go_ret
      exact ⟨⟨false, rfl⟩, hbl⟩
set_option maxRecDepth 100000 in
set_option maxHeartbeats 4000000 in
theorem long_at (A0 : Option Addr) (m c : Nat) (vs : Nat → Value) (w : World) (h0 : m ≤ c) (hm : c ≤ 9223372036854775807) (HV : Hid (∀ k, k < m → ∃ b off, A0 = some ⟨b, off, none⟩ ∧ w.cell? ⟨b, off + k, none⟩ = some (vs k) ∧ IsT w (vs k))) :
    Calls Tryz.prog 10 #[.slice A0 m c] w fun e w' => AnyB e ∧ Below w.heap.size w w' := by
  go_enter Tryz.func10, Tryz.ntmps10
  go_wp2_with fail
  go_loopw [7] (fun s wr => ∃ k : Nat, k ≤ m ∧ s = .int .i64 k ∧ Below w.heap.size w wr) (fun s _ => m - (intOf s).toNat)
  case atStart => exact ⟨0, Nat.zero_le _, rfl, Below.refl _ _⟩
  case round =>
    obtain ⟨k, hk, rfl, hbl⟩ := hrel
    by_cases hlt : k < m
    · have hl : (k : Int) < (m : Int) := by omega
      obtain ⟨b, off, rfl, hcell, n, T, X, Y, H, R, B, htv⟩ := HV.out k hlt
      have hcell := keep hbl hcell
      have htv := tv_keep hbl htv
      obtain ⟨A, cap, hv, hnc, hcap⟩ := tv_slice htv
      rw [hv] at hcell htv
      have hcap' : cap ≤ 9223372036854775807 := Nat.le_trans hcap (by decide)
      clear hv hcap
      have HTV := Lib.hid htv; have HB := Lib.hid hbl; clear htv hbl
      by_cases d1 : 12 < (n : Int)
      · have e1 := decide_eq_true d1
        go_wp2_with fail
        refine d_region (by kernel_rfl) (by kernel_rfl) ?_
        repeat
          first
            | (refine d_plain (by with_reducible rfl) ?_; apply Exists.intro; refine ⟨fun wq hc hq => ?_, ?_⟩)
            | (refine d_on (by with_reducible rfl) (by rfl) (by with_reducible rfl) ?_; apply Exists.intro; refine ⟨fun wq hc hq => ?_, ?_⟩)
            | (refine d_off (by with_reducible rfl) (by rfl) (by rfl) ?_)
            | (refine d_void (by with_reducible rfl) (by rfl) ?_)
          try any_goals
            (have q0 := keep (cls hq) hcell; clear hc
             go_simp
             first
               | rfl)
          simp only [Act.put, List.setIfInBounds_toArray, List.set_cons_zero, List.set_cons_succ]
        refine d_nil ?_
        intro w1 hb1
        go_wp2_with fail
        go_ret
        exact ⟨⟨true, rfl⟩, b_next HB.out hb1⟩
      · have e1 := decide_eq_false d1
        by_cases d2 : 0 < (n : Int)
        · have e2 := decide_eq_true d2
          have hn0 : 0 < n := by omega
          have e2' : decide (0 < n) = true := decide_eq_true hn0
          have hr : ∃ b' off', A = some ⟨b', off', none⟩ ∧ ∀ k, k < n → S6 wr b' (off' + k * 6) (T k) (X k) (Y k) (H k) (R k) (B k) := by
            rcases HTV.out with ⟨h, -⟩ | ⟨-, b', off', cap', he, -, -, h3⟩
            · omega
            · injection he with h4; exact ⟨b', off', h4, h3⟩
          obtain ⟨b', off', rfl, h3⟩ := hr
          have E0 := Lib.hid (h3 0 (by omega)); have E1 := Lib.hid (h3 (n - 1) (by omega)); clear h3
          have u1 : IntKind.i64.wrap ((n : Int) - 1) = ((n - 1 : Nat) : Int) := by rw [IntWalk.i64_in _ (by omega)]; omega
          have u2 : ((n - 1 : Nat) : Int) < (n : Int) := by omega
          go_wp2_with fail
          refine d_region (by kernel_rfl) (by kernel_rfl) ?_
          repeat
            first
              | (refine d_plain (by with_reducible rfl) ?_; apply Exists.intro; refine ⟨fun wq hc hq => ?_, ?_⟩)
              | (refine d_on (by with_reducible rfl) (by rfl) (by with_reducible rfl) ?_; apply Exists.intro; refine ⟨fun wq hc hq => ?_, ?_⟩)
              | (refine d_off (by with_reducible rfl) (by rfl) (by rfl) ?_)
              | (refine d_void (by with_reducible rfl) (by rfl) ?_)
            try any_goals
              (have q0 := s6_keep (cls hq) E0.out; have q1 := s6_keep (cls hq) E1.out; rw [Nat.zero_mul, Nat.add_zero] at q0; clear hc
               go_simp
               first
                 | rfl)
            simp only [Act.put, List.setIfInBounds_toArray, List.set_cons_zero, List.set_cons_succ]
          refine d_nil ?_
          intro w1 hb1
          have HB1 := Lib.hid (b_next HB.out hb1); clear hb1
          by_cases d3 : 1200 < IntKind.i64.wrap (T (n - 1) - T 0)
          · have e3 := decide_eq_true d3
            go_wp2_with fail
            go_ret
            exact ⟨⟨true, rfl⟩, HB1.out⟩
          · have e3 := decide_eq_false d3
            go_wp2_with fail
            exact ⟨⟨k + 1, by omega, by go_num, HB1.out⟩, by simp [intOf]; omega⟩
        · have e2 := decide_eq_false d2
          have e2' : decide (0 < n) = false := decide_eq_false (by omega)
          go_wp2_with fail
          refine d_region (by kernel_rfl) (by kernel_rfl) ?_
          repeat
            first
              | (refine d_plain (by with_reducible rfl) ?_; apply Exists.intro; refine ⟨fun wq hc hq => ?_, ?_⟩)
              | (refine d_on (by with_reducible rfl) (by rfl) (by with_reducible rfl) ?_; apply Exists.intro; refine ⟨fun wq hc hq => ?_, ?_⟩)
              | (refine d_off (by with_reducible rfl) (by rfl) (by rfl) ?_)
              | (refine d_void (by with_reducible rfl) (by rfl) ?_)
            try any_goals
              (have q0 := keep (cls hq) hcell; clear hc
               go_simp
               first
                 | rfl)
            simp only [Act.put, List.setIfInBounds_toArray, List.set_cons_zero, List.set_cons_succ]
          refine d_nil ?_
          intro w1 hb1
          have HB1 := Lib.hid (b_next HB.out hb1); clear hb1
          go_wp2_with fail
          exact ⟨⟨k + 1, by omega, by go_num, HB1.out⟩, by simp [intOf]; omega⟩
    · have hl : ¬ (k : Int) < (m : Int) := by omega
      go_wp2_with fail
      go_ret
      exact ⟨⟨false, rfl⟩, hbl⟩
theorem longC {w : World} {v : Value} {m : Nat} {D : Nat → Td} (h : TsV w v m D) : Calls Tryz.prog 10 #[v] w fun e w' => AnyB e ∧ Below w.heap.size w w' := by
  rcases h with ⟨rfl, rfl | ⟨a, cap, rfl, hm⟩⟩ | ⟨h0, b, off, cap, rfl, h1, h2, h3⟩
  · exact long_at none 0 0 (fun _ => .slice none 0 0) w (Nat.le_refl _) (by decide) (Lib.hid fun k hk => absurd hk (Nat.not_lt_zero k))
  · exact long_at (some a) 0 cap (fun _ => .slice none 0 0) w (Nat.zero_le _) (Nat.le_trans hm (by decide)) (Lib.hid fun k hk => absurd hk (Nat.not_lt_zero k))
  · have e : ∀ k, ∃ u, k < m → w.cell? ⟨b, off + k, none⟩ = some u ∧ TD w u (D k) := fun k => by
      by_cases hk : k < m
      · exact (h3 k hk).elim fun u hu => ⟨u, fun _ => hu⟩
      · exact ⟨undef, fun h => absurd h hk⟩
    obtain ⟨vs, hvs⟩ := Classical.axiomOfChoice e
    exact long_at _ m cap vs w h1 (Nat.le_trans h2 (by decide)) (Lib.hid fun k hk => ⟨b, off, rfl, (hvs k hk).1, _, _, _, _, _, _, _, (hvs k hk).2⟩)
theorem fits_tube : (Tryz.prog.info? 23).map (fun i => (i.zero, i.size, i.bytes)) = some (some (.slice none 0 0), 1, 24) := by kernel_rfl
/-- tube.Shift, whatever it answers. -/
theorem shiftX {w : World} {u : Value} {d : Td} (h : TD w u d) (bx by' later : Int) :
    (∃ E : Int, E ≠ 0 ∧ ∀ w1, Below w.heap.size w w1 → Calls Tryz.prog 21 #[u, .agg #[.int .i64 bx, .int .i64 by'], .int .i64 later] w1 fun e w' => e = .returned (.tuple #[.slice none 0 0, .int .i64 E]) ∧ Below w1.heap.size w1 w') ∨
    (tck d.T d.X d.Y d.H d.R d.B d.n = 0 ∧ tck (mvd d bx by' later).T (mvd d bx by' later).X (mvd d bx by' later).Y d.H d.R d.B d.n = 0 ∧ shOk bx by' later ∧ ∀ w1, Below w.heap.size w w1 → Calls Tryz.prog 21 #[u, .agg #[.int .i64 bx, .int .i64 by'], .int .i64 later] w1 fun e w' => (∃ g c, e = .returned (.tuple #[.slice (some ⟨g, 0, none⟩) d.n c, .int .i64 0]) ∧ w1.heap.size ≤ g ∧ g < w'.heap.size ∧ TD w' (.slice (some ⟨g, 0, none⟩) d.n c) (mvd d bx by' later)) ∧ Below w1.heap.size w1 w') := by
  obtain ⟨n, T, X, Y, H, R, B⟩ := d
  have C := checkC h
  dsimp only at C h ⊢
  by_cases hE : tck T X Y H R B n = 0
  · have hp := (tck_zero n).1 hE
    rw [hE] at C
    by_cases hx : shOk bx by' later
    · rcases h with ⟨h0, -⟩ | ⟨h0, b, off, cap, rfl, h1, h2, h3⟩
      · have h0 : n = 0 := h0
        have := hp.pos; omega
      · have h2' : cap ≤ 9223372036854775807 := Nat.le_trans h2 (by decide)
        have C2 : ∀ w1 v, TV w1 v n (fun k => T k + later) (fun k => X k + bx) (fun k => Y k + by') H R B → Calls Tryz.prog 32 #[v] w1 fun e w' => e = .returned (.int .i64 (tck (fun k => T k + later) (fun k => X k + bx) (fun k => Y k + by') H R B n)) ∧ Below w1.heap.size w1 w' := fun w1 v hv => checkC hv w1 (Below.refl _ _)
        have two : ∀ E : Int, (E = 0 ∧ (E == 0) = true ∧ (E != 0) = false) ∨ (E ≠ 0 ∧ (E == 0) = false ∧ (E != 0) = true) := fun E => by
          by_cases h : E = 0
          · exact Or.inl ⟨h, by simp [h], by simp [h]⟩
          · exact Or.inr ⟨h, by simp [h], by simp [h]⟩
        have SW := fun (w1 : World) (hb : Below w.heap.size w w1) => shift_walk n cap b off T X Y H R B bx by' later _ w1 h0 hp.small h1 h2' (Lib.hid fun k hk => s6_keep hb (h3 k hk)) (Lib.hid fun w2 hb2 => C w2 (b_next hb hb2)) (Lib.hid C2) (Lib.hid fun k hk => ⟨hp.time k hk, hp.point k hk⟩) hx (two _)
        by_cases hE2 : tck (fun k => T k + later) (fun k => X k + bx) (fun k => Y k + by') H R B n = 0
        · refine Or.inr ⟨hE, hE2, hx, fun w1 hb => (SW w1 hb).mono ?_⟩
          rintro e w' ⟨⟨q, -⟩ | ⟨-, g, cap', he, hg, hc, hm, hr⟩, hbw⟩
          · exact absurd hE2 q
          · have ht : TV w' (.slice (some ⟨g, 0, none⟩) n cap') n (fun k => T k + later) (fun k => X k + bx) (fun k => Y k + by') H R B := tf_tv h0 hc hm hr
            exact ⟨⟨g, cap', he, by omega, lt_of_cell (hr.cell 0 h0 0 (by decide)), ht⟩, hbw⟩
        · refine Or.inl ⟨_, hE2, fun w1 hb => (SW w1 hb).mono ?_⟩
          rintro e w' ⟨⟨-, he⟩ | ⟨q, -⟩, hbw⟩
          · exact ⟨he, hbw⟩
          · exact absurd q hE2
    · exact Or.inl ⟨4, by decide, fun w1 hb => shift_no u bx by' later w1 (Lib.hid fun w2 hb2 => C w2 (b_next hb hb2)) hx⟩
  · exact Or.inl ⟨_, hE, fun w1 hb => shift_bad u bx by' later _ w1 (Lib.hid fun w2 hb2 => C w2 (b_next hb hb2)) (by simpa using hE) (by simpa using hE)⟩
/-- The cells of the moved tubes' row. -/
abbrev cel (D : Nat → Td) (g c : Nat → Nat) : Nat → Nat → Value := fun i _ => .slice (some ⟨g i, 0, none⟩) (D i).n (c i)
/-- The moved tubes: a row of the call's own, and the tubes, each in a block of its own. -/
structure Mv (w : World) (base : Nat) (v : Value) (k : Nat) (D : Nat → Td) (bx by' later : Int) (g c : Nat → Nat) : Prop where
  own : OwnG w base 23 1 v k (cel D g c)
  lt : ∀ i, i < k → g i < w.heap.size
  ne : ∀ i, i < k → v.ownBlock ≠ some (g i)
  td : ∀ i, i < k → TD w (.slice (some ⟨g i, 0, none⟩) (D i).n (c i)) (mvd (D i) bx by' later)
theorem mv_keep {w w1 : World} (hb : Below w.heap.size w w1) {base k : Nat} {v : Value} {D : Nat → Td} {bx by' later : Int} {g c : Nat → Nat} (h : Mv w base v k D bx by' later g c) : Mv w1 base v k D bx by' later g c :=
  ⟨ownG_keep hb h.own, fun i hi => Nat.lt_of_lt_of_le (h.lt i hi) hb.size, h.ne, fun i hi => tv_keep hb (h.td i hi)⟩
theorem ownG_lt {w : World} {base : Nat} {E : TypeId} {C n : Nat} {v : Value} {f : Nat → Nat → Value} (h : OwnG w base E C v n f) : ∀ b, v.ownBlock = some b → b < w.heap.size := by
  intro b hb
  rcases h.2 with ⟨rfl, -⟩ | ⟨g, cap, cur, rfl, -, hg, -⟩
  · cases hb
  · cases hb; exact (Array.getElem?_eq_some_iff.1 hg).1
theorem td_far {w w' : World} {g n c : Nat} {d : Td} (h : TD w (.slice (some ⟨g, 0, none⟩) n c) d) (hc : ∀ o, w'.cell? ⟨g, o, none⟩ = w.cell? ⟨g, o, none⟩) : TD w' (.slice (some ⟨g, 0, none⟩) n c) d := by
  rcases h with h | ⟨h0, b, off, cap, e, h1, h2, h3⟩
  · exact Or.inl h
  · injection e with e1 e2 e3
    injection e1 with e1
    injection e1 with e1 e4
    subst e1 e4
    refine Or.inr ⟨h0, g, 0, cap, by rw [e2, e3], h1, h2, fun k hk => ?_⟩
    have q := h3 k hk
    exact ⟨⟨by rw [hc]; exact q.1.1, by rw [hc]; exact q.1.2.1, by rw [hc]; exact q.1.2.2⟩, by rw [hc]; exact q.2.1, by rw [hc]; exact q.2.2.1, by rw [hc]; exact q.2.2.2⟩
/-- One more. -/
theorem mv_step {wr w4 w6 : World} {base k gn cn : Nat} {v v2 : Value} {D : Nat → Td} {bx by' later : Int} {g c : Nat → Nat} (h : Mv wr base v k D bx by' later g c) (hb : Below wr.heap.size wr w4) (hg1 : wr.heap.size ≤ gn) (hg2 : gn < w4.heap.size)
    (ht : TD w4 (.slice (some ⟨gn, 0, none⟩) (D k).n cn) (mvd (D k) bx by' later)) (hown : w6.ownsRow base 23 1 v2 (k + 1) (rowG 1 (cel D g c) k ++ [.slice (some ⟨gn, 0, none⟩) (D k).n cn])) (hgr : w4.grownBy w6 v.ownBlock) (hat : v2.ownBlock = v.ownBlock ∨ v2.ownBlock = some w4.heap.size) :
    Mv w6 base v2 (k + 1) D bx by' later (fun i => if i = k then gn else g i) (fun i => if i = k then cn else c i) := by
  have hv : v.ownBlock ≠ some gn := fun e => by have := ownG_lt h.own gn e; omega
  have hs : w4.heap.size ≤ w6.heap.size := hgr.size
  have far : ∀ b, b < w4.heap.size → v.ownBlock ≠ some b → ∀ o, w6.cell? ⟨b, o, none⟩ = w4.cell? ⟨b, o, none⟩ := fun b hb hn o => hgr.cell_far ⟨b, o, none⟩ hb (fun e => hn e.symm)
  refine ⟨?_, fun i hi => ?_, fun i hi => ?_, fun i hi => ?_⟩
  · have e : rowG 1 (cel D (fun i => if i = k then gn else g i) (fun i => if i = k then cn else c i)) (k + 1) = rowG 1 (cel D g c) k ++ [.slice (some ⟨gn, 0, none⟩) (D k).n cn] := by
      show rowG 1 (cel D (fun i => if i = k then gn else g i) (fun i => if i = k then cn else c i)) k ++ _ = _
      rw [rowG_congr (g := cel D g c) (fun i hi j hj => by show Value.slice (some ⟨if i = k then gn else g i, 0, none⟩) _ (if i = k then cn else c i) = _; rw [if_neg (by omega), if_neg (by omega)])]
      congr 1
      show [Value.slice (some ⟨if k = k then gn else g k, 0, none⟩) _ (if k = k then cn else c k)] = _
      rw [if_pos rfl, if_pos rfl]
    show w6.ownsRow base _ 1 v2 (k + 1) (rowG 1 _ (k + 1))
    rw [e]; exact hown
  · by_cases e : i = k
    · simp only [if_pos e]; omega
    · simp only [if_neg e]; have := h.lt i (by omega); have := hb.size; omega
  · by_cases e : i = k
    · simp only [if_pos e]
      rcases hat with q | q
      · rw [q]; exact hv
      · rw [q]; intro e; injection e with e; omega
    · simp only [if_neg e]
      have := h.lt i (by omega)
      have := hb.size
      rcases hat with q | q
      · rw [q]; exact h.ne i (by omega)
      · rw [q]; intro e; injection e with e; omega
  · by_cases e : i = k
    · subst e
      show TD w6 (.slice (some ⟨if i = i then gn else g i, 0, none⟩) (D i).n (if i = i then cn else c i)) _
      rw [if_pos rfl, if_pos rfl]
      exact td_far ht (far gn hg2 hv)
    · simp only [if_neg e]
      have := h.lt i (by omega)
      have := hb.size
      exact td_far (tv_keep hb (h.td i (by omega))) (far (g i) (by omega) (h.ne i (by omega)))
theorem mv_nil (w : World) (D : Nat → Td) (bx by' later : Int) : Mv w w.heap.size (.slice none 0 0) 0 D bx by' later (fun _ => 0) (fun _ => 0) :=
  ⟨ownG_nil w _ _ _ _, fun i hi => absurd hi (Nat.not_lt_zero i), fun i hi => absurd hi (Nat.not_lt_zero i), fun i hi => absurd hi (Nat.not_lt_zero i)⟩
/-- The moved tubes read as tubes. -/
theorem mv_ts {w : World} {base k : Nat} {v : Value} {D : Nat → Td} {bx by' later : Int} {g c : Nat → Nat} (h : Mv w base v k D bx by' later g c) : TsV w v k (fun i => mvd (D i) bx by' later) := by
  rcases Nat.eq_zero_or_pos k with h0 | h0
  · subst h0
    refine Or.inl ⟨rfl, ?_⟩
    rcases h.own.2 with ⟨e, -⟩ | ⟨g, cap, cur, e, -, -, -, hcm, -⟩
    · exact Or.inl e
    · exact Or.inr ⟨_, cap, e, hcm⟩
  · obtain ⟨b, cap, e, -, -, h1, h2, hr⟩ := ownG_row h.own h0
    refine Or.inr ⟨h0, b, 0, cap, e, h1, h2, fun i hi => ⟨_, ?_, h.td i hi⟩⟩
    have q := hr.cell i hi 0 (by decide)
    rw [Nat.mul_one, Nat.add_zero] at q
    rw [Nat.zero_add]; exact q
theorem ownG_slice' {w : World} {base : Nat} {E : TypeId} {C n : Nat} {v : Value} {f : Nat → Nat → Value} (h : OwnG w base E C v n f) : ∃ A cap, v = .slice A n cap := by
  rcases h.2 with ⟨rfl, rfl⟩ | ⟨g, cap, cur, rfl, -⟩
  · exact ⟨_, _, rfl⟩
  · exact ⟨_, _, rfl⟩
/-- The first k tubes pass, moved and unmoved. -/
def Pass (D : Nat → Td) (bx by' later : Int) (k : Nat) : Prop := ∀ i, i < k → tse D i = 0 ∧ tse (fun i => mvd (D i) bx by' later) i = 0 ∧ shOk bx by' later
theorem pass_step {D : Nat → Td} {bx by' later : Int} {k : Nat} (h : Pass D bx by' later k) (h1 : tse D k = 0 ∧ tse (fun i => mvd (D i) bx by' later) k = 0 ∧ shOk bx by' later) : Pass D bx by' later (k + 1) := fun i hi => by
  by_cases e : i = k
  · rw [e]; exact h1
  · exact h i (by omega)
theorem first_all {es : Nat → Int} : ∀ m, (∀ i, i < m → es i = 0) → firstE es m = 0
  | 0, _ => rfl
  | m + 1, h => by rw [first_step (first_all m fun i hi => h i (by omega))]; exact h m (by omega)
theorem all_same {D : Nat → Td} {bx by' later lat ver : Int} {m : Nat} (h : Pass D bx by' later m) : allE m (fun i => mvd (D i) bx by' later) lat ver = allE m D lat ver := by
  unfold allE
  rw [first_all m fun i hi => (h i hi).1, first_all m fun i hi => (h i hi).2.1]
/-- What is known of the two lists of clashes. -/
structure Pr (L L' : List Ck) (later : Int) : Prop where
  len : L'.length = L.length
  at' : ∀ k (h : k < L.length) (h' : k < L'.length), L'[k] = sh later L[k]
  time : ∀ k (h : k < L.length), (0 ≤ L[k].F ∧ L[k].F ≤ 200001) ∧ (0 ≤ L[k].T ∧ L[k].T ≤ 200001) ∧ -200000 ≤ later ∧ later ≤ 200000
theorem pr_of {D : Nat → Td} {bx by' later lat ver : Int} {m : Nat} (hp : Pass D bx by' later m) (hok : allE m D lat ver = 0) {L L' : List Ck} (h : L.Perm (cla D lat ver m m)) (h' : L'.Perm (cla (fun i => mvd (D i) bx by' later) lat ver m m)) (s : srt L) (s' : srt L') : Pr L L' later := by
  rw [cla_shift] at h'
  have e := same h h' s s'
  refine ⟨by rw [e, List.length_map], fun k hk hk' => ?_, fun k hk => ?_⟩
  · subst e; rw [List.getElem_map]
  · have ht : toks D m := by
      refine toks_of ?_
      exact first_all m fun i hi => (hp i hi).1
    have hm : L[k] ∈ cla D lat ver m m := h.mem_iff.1 (List.getElem_mem hk)
    have hm0 : 0 < m := by
      rcases Nat.eq_zero_or_pos m with e | e
      · subst e; exact absurd hm List.not_mem_nil
      · exact e
    have := (hp 0 hm0).2.2
    unfold shOk at this
    exact ⟨(cla_time ht hm).1, (cla_time ht hm).2, by omega, by omega⟩
theorem len_same {D : Nat → Td} {bx by' later lat ver : Int} {m : Nat} : (cla (fun i => mvd (D i) bx by' later) lat ver m m).length = (cla D lat ver m m).length := by rw [cla_shift, List.length_map]
set_option maxRecDepth 100000 in
set_option maxHeartbeats 8000000 in
theorem core (A : Option Addr) (m M c : Nat) (D : Nat → Td) (lat ver bx by' later : Int) (w : World) (hM4 : M ≤ 4) (hM : (min (m : Int) 4).toNat = M) (_hMm : M ≤ m) (hmc : m ≤ c) (hcm : c ≤ maxLen) (hla : -9223372036854775808 ≤ later ∧ later ≤ 9223372036854775807) (HV : Hid (TsV w (.slice A M c) M D)) (WK : Hid (∀ w1, Below w.heap.size w w1 → Calls Tryz.prog 9 #[] w1 fun e w' => e = .returned (.bool true) ∧ Below w1.heap.size w1 w')) :
    Calls Tryz.prog 6 #[.slice A m c, .agg #[.int .i64 lat, .int .i64 ver], .agg #[.int .i64 bx, .int .i64 by'], .int .i64 later] w fun e w' => e = .returned (.bool true) ∧ Below w.heap.size w w' := by
  have hc9 : c ≤ 9223372036854775807 := Nat.le_trans hcm (by decide)
  have hm9 : (m : Int) ≤ 9223372036854775807 := by omega
  have hm0 : (0 : Int) ≤ (m : Int) := Int.natCast_nonneg _
  have HM := Lib.hid hM; clear hM
  clear hcm
  have LG := Lib.hid fun (w1 : World) (hb : Below w.heap.size w w1) => longC (ts_keep hb HV.out)
  have AC := Lib.hid fun (w1 : World) (hb : Below w.heap.size w w1) => allC (ts_keep hb HV.out) lat ver
  obtain ⟨i0, hi, hz0, hz1, hz2⟩ := info_parts fits_tube
  have IN := Lib.hid (And.intro hi (And.intro hz0 (And.intro hz1 hz2))); clear hi hz0 hz1 hz2
  go_enter Tryz.func6, Tryz.ntmps6
  go_wp2_with fail
  all_goals try (exfalso; omega)
  rw [HM.out]
  have HS0 := p2_new w 25 lat ver
  have HP0 := p2_new (w.alloc (.cells #[.int .i64 lat, .int .i64 ver] 25)) 54 bx by'
  rw [World.size_alloc] at HP0
  have HS := Lib.hid (p2_alloc (.cells #[.int .i64 bx, .int .i64 by'] 54) HS0)
  have HP := Lib.hid HP0
  have W0 := Lib.hid (b_alloc (b_alloc (Below.refl w.heap.size w) (.cells #[.int .i64 lat, .int .i64 ver] 25)) (.cells #[.int .i64 bx, .int .i64 by'] 54))
  clear HS0 HP0
  obtain ⟨n0, hn0⟩ : ∃ n0, n0 = w.heap.size := ⟨_, rfl⟩
  rw [← hn0] at HS HP ⊢
  clear hn0
  generalize (w.alloc (.cells #[.int .i64 lat, .int .i64 ver] 25)).alloc (.cells #[.int .i64 bx, .int .i64 by'] 54) = w0 at *
  (with_reducible refine (WK.out _ W0.out).mono ?_); rintro e w1 ⟨rfl, hb⟩
  have W1 := Lib.hid (b_next W0.out hb); have S1 := Lib.hid (p2_keep hb HS.out); have P1 := Lib.hid (p2_keep hb HP.out); clear hb
  go_wp2_with fail
  (with_reducible refine (LG.out _ W1.out).mono ?_); rintro e w2 ⟨⟨r, rfl⟩, hb⟩
  have W2 := Lib.hid (b_next W1.out hb); have S2 := Lib.hid (p2_keep hb S1.out); have P2' := Lib.hid (p2_keep hb P1.out); clear hb
  cases r with
  | true =>
    go_wp2_with fail
    go_ret
    exact ⟨by first | rfl | exact retb rfl, W2.out⟩
  | false =>
  have MN := Lib.hid (mv_nil w2 D bx by' later)
  go_wp2_with fail
  go_loopw [9, 31] (fun v s wr => ∃ (k : Nat) (g cc : Nat → Nat), k ≤ M ∧ s = .int .i64 k ∧ Pass D bx by' later k ∧ Mv wr w2.heap.size v k D bx by' later g cc ∧ Below w2.heap.size w2 wr) (fun _ s _ => M - (intOf s).toNat)
  case atStart => exact ⟨0, _, _, Nat.zero_le _, rfl, fun i hi => absurd hi (Nat.not_lt_zero i), MN.out, Below.refl _ _⟩
  case round =>
    obtain ⟨k, g, cc, hk, rfl, hpass, hmv, hbl⟩ := hrel
    have WR := Lib.hid (b_next W2.out hbl); have BL := Lib.hid hbl; have PR := Lib.hid (p2_keep hbl P2'.out); have SR := Lib.hid (p2_keep hbl S2.out); have PS := Lib.hid hpass; have MV := Lib.hid hmv
    clear hpass hbl
    obtain ⟨Ao, co, rfl⟩ := ownG_slice' hmv.own
    clear hmv
    by_cases hlt : k < M
    · have hl : (k : Int) < (M : Int) := by omega
      obtain ⟨vb, vo, c', e, hc1, hc2, h3⟩ := ts_at (ts_keep WR.out HV.out) (by omega)
      injection e with e1 _ e3
      subst e1 e3
      obtain ⟨u, cu, tu⟩ := h3 k hlt
      have SX := shiftX tu bx by' later
      obtain ⟨p0, p1⟩ := PR.out
      rcases SX with ⟨E, hE, SC⟩ | ⟨e1, e2, hsh, SC⟩
      · have hE1 : (E != 0) = true := by simpa using hE
        have hE2 : (E == 0) = false := by simpa using hE
        have SC' := Lib.hid SC
        clear hE h3 tu SC
        go_wp2_with fail
        (with_reducible refine (SC'.out _ (Below.refl _ _)).mono ?_); rintro e w3 ⟨rfl, hb⟩
        have W3 := Lib.hid (b_next WR.out hb); clear hb
        go_wp2_with fail
        go_ret
        exact ⟨by first | rfl | exact retb rfl, W3.out⟩
      · have PS2 := Lib.hid (pass_step PS.out ⟨e1, e2, hsh⟩)
        have SC' := Lib.hid SC
        clear e1 e2 hsh SC h3 tu
        go_wp2_with fail
        (with_reducible refine (SC'.out _ (Below.refl _ _)).mono ?_); rintro e w3 ⟨⟨gn, cn, rfl, hg1, hg2, ht⟩, hb⟩
        have W3 := Lib.hid (b_next WR.out hb); have B3 := Lib.hid hb
        have BA := Lib.hid (b_next hb (b_alloc (Below.refl w3.heap.size w3) (.cells #[.slice (some ⟨gn, 0, none⟩) (D k).n cn] 23)))
        have T4 := Lib.hid (tv_keep (b_alloc (Below.refl w3.heap.size w3) (.cells #[.slice (some ⟨gn, 0, none⟩) (D k).n cn] 23)) ht)
        have OG := Lib.hid (ownG_keep BA.out MV.out.own)
        have NW := Lib.hid (cell_one_new w3 (.slice (some ⟨gn, 0, none⟩) (D k).n cn) 23)
        have G1 := Lib.hid hg1
        have G2 : Hid (gn < (w3.alloc (.cells #[.slice (some ⟨gn, 0, none⟩) (D k).n cn] 23)).heap.size) := Lib.hid (by rw [World.size_alloc]; omega)
        have SZ : Hid (w2.heap.size ≤ (w3.alloc (.cells #[.slice (some ⟨gn, 0, none⟩) (D k).n cn] 23)).heap.size) := Lib.hid (Nat.le_trans BL.out.size BA.out.size)
        clear hb hg1 hg2 ht p0 p1 cu
        go_wp2_with (at_builtin; refine wpList_append_own_at _ rfl (.tmp 47) (.tmp 49) 69 rfl w2.heap.size 23 i0 _ 1 24 Tryz.underlying69 IN.out.1 IN.out.2.1 IN.out.2.2.1 IN.out.2.2.2 rfl (by decide) _ k _ rfl OG.out ⟨w3.heap.size, 0, none⟩ 1 1 [.slice (some ⟨gn, 0, none⟩) (D k).n cn] rfl rfl NW.out (by simp [Value.oneCell']) (by unfold maxLen; omega) (by omega) SZ.out ?_; intro v2 w6 hown1' hg1' hnil1 hat1'; have hown1 := Lib.hid hown1'; have hg1 := Lib.hid hg1'; have hat1 := Lib.hid hat1'; clear hnil1 hown1' hg1' hat1')
        have MV2 := Lib.hid (mv_step MV.out BA.out G1.out G2.out T4.out hown1.out hg1.out hat1.out)
        have W6 : Hid (Below w2.heap.size w2 w6) := Lib.hid (growG_below (b_next BL.out BA.out) OG.out hg1.out (Nat.le_refl _) SZ.out)
        clear hown1 hg1 hat1
        go_wp2_with fail
        go_roundw
        case rel => exact ⟨k + 1, _, _, by omega, by go_num, PS2.out, MV2.out, W6.out⟩
        case measure => simp [intOf]; omega
    · have hkM : k = M := by omega
      subst hkM
      have hl : ¬ (k : Int) < (k : Int) := by omega
      obtain ⟨s0, s1⟩ := SR.out
      go_wp2_with fail
      (with_reducible refine (AC.out _ WR.out).mono ?_); rintro e w3 ⟨har, hb⟩
      have W3 := Lib.hid (b_next WR.out hb); have S3 := Lib.hid (p2_keep hb SR.out)
      have AC2 := Lib.hid (allC (mv_ts (mv_keep hb MV.out)) lat ver)
      clear hb s0 s1
      obtain ⟨s0, s1⟩ := S3.out
      rcases har with ⟨E, hE0, rfl, he1, he2⟩ | ⟨hE, hn, v, L, rfl, hp, hs, hcl⟩
      · have hE1 : (E != 0) = true := by simpa using hE0
        have hE2 : (E == 0) = false := by simpa using hE0
        have HE1 := Lib.hid he1; have HE2 := Lib.hid he2
        clear hE0 he1 he2
        go_wp2_with fail
        (with_reducible refine AC2.out.mono ?_); rintro e w4 ⟨har, hb⟩
        have W4 := Lib.hid (b_next W3.out hb); clear hb s0 s1
        rcases har with ⟨E', hE0, rfl, he1, he2⟩ | ⟨hE, hn, v, L, rfl, hp, hs, hcl⟩
        · have q : E' = E := by
            rw [all_same PS.out] at he1 he2
            rw [len_same] at he2
            by_cases h0 : allE k D lat ver = 0
            · rw [(HE2.out h0).1, (he2 h0).1]
            · rw [HE1.out h0, he1 h0]
          subst q
          clear he1 he2 hE0
          go_wp2_with fail
          go_loopw [76] (fun s wr => s = .int .i64 0 ∧ wr = w4) (fun _ _ => 0)
          case atStart => exact ⟨rfl, rfl⟩
          case round =>
            obtain ⟨rfl, hw⟩ := hrel
            subst hw
            go_wp2_with fail
            go_ret
            exact ⟨by first | rfl | exact retb rfl, W4.out⟩
        · exfalso
          rw [all_same PS.out] at hE
          rw [len_same] at hn
          have := (HE2.out hE).2
          omega
      · obtain ⟨Av, cv, rfl, hv1, hv2⟩ := clv_slice hcl
        have hv9 : cv ≤ 9223372036854775807 := Nat.le_trans hv2 (by decide)
        have CL3 := Lib.hid hcl; have HE := Lib.hid hE; have HN := Lib.hid hn; have HPm := Lib.hid hp; have HSr := Lib.hid hs
        clear hcl hE hn hp hs hv2
        go_wp2_with fail
        (with_reducible refine AC2.out.mono ?_); rintro e w4 ⟨har, hb⟩
        have W4 := Lib.hid (b_next W3.out hb); have CL4 := Lib.hid (clv_keep hb CL3.out); clear hb s0 s1
        rcases har with ⟨E', hE0, rfl, he1, he2⟩ | ⟨hE, hn, v, L', rfl, hp, hs, hcl⟩
        · exfalso
          rw [all_same PS.out] at he2
          rw [len_same] at he2
          have := (he2 HE.out).2
          have := HN.out
          omega
        · obtain ⟨Aw, cw, rfl, hw1, hw2⟩ := clv_slice hcl
          have hw9 : cw ≤ 9223372036854775807 := Nat.le_trans hw2 (by decide)
          have PRS := Lib.hid (pr_of PS.out HE.out HPm.out hp HSr.out hs)
          have CM4 := Lib.hid hcl
          have hln := PRS.out.len
          rw [hln] at CM4 hw1 ⊢
          have HLN := Lib.hid hln
          clear hE hn hp hs hcl hln hw2 HPm HSr HE HN
          go_wp2_with fail
          go_loopw [76] (fun s wr => ∃ q : Nat, q ≤ L.length ∧ s = .int .i64 q ∧ Below w4.heap.size w4 wr) (fun s _ => L.length - (intOf s).toNat)
          case atStart => exact ⟨0, Nat.zero_le _, rfl, Below.refl _ _⟩
          case round =>
            obtain ⟨q, hq, rfl, hbl⟩ := hrel
            have BQ := Lib.hid hbl; clear hbl
            by_cases hltq : q < L.length
            · have hlq : (q : Int) < (L.length : Int) := by omega
              have hltq' : q < L'.length := by rw [HLN.out]; exact hltq
              obtain ⟨gb, e, hcells⟩ := clv_at CL4.out (by omega)
              subst e
              obtain ⟨x0, x1, x2, x3⟩ := hcells q hltq
              obtain ⟨gb2, e, hcells2⟩ := clv_at (L := L') (by rw [HLN.out]; exact CM4.out) (by omega)
              subst e
              have hc2 := hcells2 q hltq'
              rw [PRS.out.at' q hltq hltq'] at hc2
              obtain ⟨z0, z1, z2, z3⟩ := hc2
              have z0 : w4.cell? ⟨gb2, q * 4, none⟩ = some (.int .i64 L[q].A) := z0
              have z1 : w4.cell? ⟨gb2, q * 4 + 1, none⟩ = some (.int .i64 L[q].B) := z1
              have z2 : w4.cell? ⟨gb2, q * 4 + 2, none⟩ = some (.int .i64 (L[q].F + later)) := z2
              have z3 : w4.cell? ⟨gb2, q * 4 + 3, none⟩ = some (.int .i64 (L[q].T + later)) := z3
              obtain ⟨⟨t0, t1⟩, ⟨t2, t3⟩, t4, t5⟩ := PRS.out.time q hltq
              have x0 := keep BQ.out x0; have x1 := keep BQ.out x1; have x2 := keep BQ.out x2; have x3 := keep BQ.out x3
              have z0 := keep BQ.out z0; have z1 := keep BQ.out z1; have z2 := keep BQ.out z2; have z3 := keep BQ.out z3
              have nn := new_ne x0
              have NA := b_alloc (Below.refl wr.heap.size wr) (.cells #[.int .i64 L[q].A, .int .i64 L[q].B, .int .i64 L[q].F, .int .i64 L[q].T] 78)
              have BQ1 := Lib.hid (b_next BQ.out NA)
              have Z0 := Lib.hid (keep NA z0); have Z1 := Lib.hid (keep NA z1); have Z2 := Lib.hid (keep NA z2); have Z3 := Lib.hid (keep NA z3)
              have N4 := new4 wr 78 (.int .i64 L[q].A) (.int .i64 L[q].B) (.int .i64 L[q].F) (.int .i64 L[q].T)
              have Y0 := Lib.hid (N4 0 _ rfl); have Y1 := Lib.hid (N4 1 _ rfl); have Y2 := Lib.hid (N4 2 _ rfl); have Y3 := Lib.hid (N4 3 _ rfl)
              have u1 : IntKind.i64.wrap (L[q].F + later) = L[q].F + later := IntWalk.i64_in _ (by omega)
              have u2 : IntKind.i64.wrap (L[q].T + later) = L[q].T + later := IntWalk.i64_in _ (by omega)
              have hcL : (L.length : Int) ≤ (cw : Int) := by omega
              clear hcells hcells2 z0 z1 z2 z3 NA N4
              generalize L[q].A = y0 at *
              generalize L[q].B = y1 at *
              generalize L[q].F = y2 at *
              generalize L[q].T = y3 at *
              obtain ⟨bn, hbn⟩ : ∃ bn, bn = wr.heap.size := ⟨_, rfl⟩
              go_wp2_with fail
              simp only [Go.WideShapes.add_plain, Nat.zero_add] at Y0 Y1 Y2 Y3
              rw [← hbn] at Y0 Y1 Y2 Y3 ⊢
              clear x0 x1 x2 x3 nn hbn
              generalize wr.alloc (.cells #[.int .i64 y0, .int .i64 y1, .int .i64 y2, .int .i64 y3] 78) = wa at *
              refine d_region (by kernel_rfl) (by kernel_rfl) ?_
              repeat
                first
                  | (refine d_plain (by with_reducible rfl) ?_; apply Exists.intro; refine ⟨fun wq hc hq => ?_, ?_⟩)
                  | (refine d_on (by with_reducible rfl) (by rfl) (by with_reducible rfl) ?_; apply Exists.intro; refine ⟨fun wq hc hq => ?_, ?_⟩)
                  | (refine d_off (by with_reducible rfl) (by rfl) (by rfl) ?_)
                  | (refine d_void (by with_reducible rfl) (by rfl) ?_)
                try any_goals
                  (have l0 := keep (cls hq) Z0.out; have l1 := keep (cls hq) Z1.out; have l2 := keep (cls hq) Z2.out; have l3 := keep (cls hq) Z3.out; have m0 := keep (cls hq) Y0.out; have m1 := keep (cls hq) Y1.out; have m2 := keep (cls hq) Y2.out; have m3 := keep (cls hq) Y3.out; clear hc
                   go_simp
                   first
                     | rfl)
                simp only [Act.put, List.setIfInBounds_toArray, List.set_cons_zero, List.set_cons_succ]
              refine d_nil ?_
              intro w5 hb2
              have B2 := Lib.hid (b_next BQ1.out hb2); clear hb2
              go_wp2_with fail
              go_roundw
              case rel => exact ⟨q + 1, by omega, by go_num, B2.out⟩
              case measure => simp [intOf]; omega
            · have hlq : ¬ (q : Int) < (L.length : Int) := by omega
              go_wp2_with fail
              go_ret
              exact ⟨by first | rfl | exact retb rfl, b_next W4.out BQ.out⟩
theorem walk (l : Value) (s_lat : Int) (s_vert : Int) (by_x : Int) (by_y : Int) (later : Int) (W : World) (hL : laidMetH Tryz.prog Door.laid W) (h_l : Frame.Okc W (.sl [.sl [.int, .int, .int, .int, .int, .int]]) l) (_h_s_lat : -9223372036854775808 ≤ s_lat ∧ s_lat ≤ 9223372036854775807) (_h_s_vert : -9223372036854775808 ≤ s_vert ∧ s_vert ≤ 9223372036854775807) (_h_by_x : -9223372036854775808 ≤ by_x ∧ by_x ≤ 9223372036854775807) (_h_by_y : -9223372036854775808 ≤ by_y ∧ by_y ≤ 9223372036854775807) (h_later : -9223372036854775808 ≤ later ∧ later ≤ 9223372036854775807) :
    Calls Tryz.prog 6 #[l, .agg #[.int .i64 s_lat, .int .i64 s_vert], .agg #[.int .i64 by_x, .int .i64 by_y], .int .i64 later] W fun e w' => e = .returned (.bool true) ∧ Below W.heap.size W w' := by
  have TB := Door.tabs_of hL
  have WK := fun w1 (hb : Below W.heap.size W w1) => Top.h05Works (Ang.tabs_keep hb TB)
  obtain ⟨m, D, hv⟩ := ts_of h_l
  have hv' := hv
  obtain ⟨A, c, rfl, h1, h2⟩ := ts_slice hv
  have hmin : min m 4 ≤ m := Nat.min_le_left _ _
  have hV : TsV W (.slice A (min m 4) c) (min m 4) D := by
    rcases Nat.eq_zero_or_pos m with rfl | h0
    · exact hv'
    · exact ts_take hv' hmin h2 h0
  exact core A m (min m 4) c D s_lat s_vert by_x by_y later W (Nat.min_le_right _ _) (by omega) hmin h1 h2 h_later (Lib.hid hV) (Lib.hid WK)
-- FRAME --

set_option maxRecDepth 100000 in
theorem lifted (os : Os) (started : os.Started) (H : Type) (enc : TypeId × Value → H) :
    ReturnsInHanded {} Tryz.checked os 6 .any (fun w args => (Rows.topShiftSpec.pre enc Tryz.prog Tryz.f6 [] false w args ∧ laidMetH Tryz.prog Door.laid w) ∧ sizedMet enc Tryz.prog Tryz.f6 (OpenSpec.ofChange Rows.topShiftSpec) false w args) (Rows.topShiftSpec.post enc Tryz.prog Tryz.f6 false true false false) :=
  Frame.lifted_laid (C := Tryz.checked) 6 Tryz.f6 Tryz.own started (by kernel_rfl) Tryz.func6 Tryz.laidOut rfl (by kernel_rfl) 4 rfl Tryz.underlying4
      (fun ds h => by match ds, h with | [_, _, _, _], _ => rfl)
      (ChangeSpec.witness_at (enc := enc) (C := Tryz.checked) (os := os) (X := fun w _ => laidMetH Tryz.prog Door.laid w) false (Door.laidWorld os) #[.slice none 0 0, .agg #[.int .i64 0, .int .i64 0], .agg #[.int .i64 0, .int .i64 0], .int .i64 0] 8 rfl (by kernel_rfl) (by kernel_rfl) (by kernel_rfl) (by kernel_rfl) (by kernel_rfl) (Door.laidWorld_met os _))
      (fun W base args ds ps hval0 hA _ hL => by
        have hval : ∀ (j : Nat) t v, Tryz.f6.params[j]? = some t → args[j]? = some v → Value.okWide Tryz.prog W .any base t v := hval0
        have hA' : DataW.TrodAll enc Tryz.prog W 0 (fun _ => true) true Tryz.f6.params.toList args.toList ds ps := hA
        clear hval0 hA
        have hA := hA'
        clear hA'
        rw [Tryz.params6] at hA hval
        obtain ⟨v0, vs0, d0, ds0, p0, q0, ea, rfl, rfl, tr0, rest0⟩ := trodAll_cons hA
        obtain ⟨v1, vs1, d1, ds1, p1, q1, rfl, rfl, rfl, tr1, rest1⟩ := trodAll_cons rest0
        obtain ⟨v2, vs2, d2, ds2, p2, q2, rfl, rfl, rfl, tr2, rest2⟩ := trodAll_cons rest1
        obtain ⟨v3, vs3, d3, ds3, p3, q3, rfl, rfl, rfl, tr3, rest3⟩ := trodAll_cons rest2
        obtain ⟨rfl, rfl, rfl⟩ := trodAll_nil rest3
        obtain rfl : args = #[v0, v1, v2, v3] := by cases args; simp_all
        clear ea
        have sl_l : Frame.Okc W (.sl [.sl [.int, .int, .int, .int, .int, .int]]) v0 := by obtain ⟨a, l, c, e⟩ := okWide_slice Tryz.underlying69 (hval 0 _ v0 rfl rfl); exact Frame.arg_cell (k := 8) (by kernel_rfl) (by have e2 : v0 = .slice a l c := e; rw [e2]; rfl) tr0
        obtain ⟨cs_s, e_s, hl_s, hc_s⟩ := Frame.arg_agg Tryz.underlying25 (k := 8) (ks := [.int, .int]) (by kernel_rfl) (hval 1 _ v1 rfl rfl) tr1
        subst e_s
        obtain ⟨c_s_lat, c_s_vert, rfl⟩ : ∃ c_s_lat c_s_vert, cs_s = [c_s_lat, c_s_vert] := by match cs_s, hl_s with | [x0, x1], _ => exact ⟨x0, x1, rfl⟩
        have o_s_lat : Frame.Okc W (.int) c_s_lat := hc_s 0 (by decide) (by simp)
        obtain ⟨s_lat, e_s_lat, w_s_lat⟩ := o_s_lat.int_inv; subst e_s_lat
        have o_s_vert : Frame.Okc W (.int) c_s_vert := hc_s 1 (by decide) (by simp)
        obtain ⟨s_vert, e_s_vert, w_s_vert⟩ := o_s_vert.int_inv; subst e_s_vert
        obtain ⟨cs_by, e_by, hl_by, hc_by⟩ := Frame.arg_agg Tryz.underlying54 (k := 8) (ks := [.int, .int]) (by kernel_rfl) (hval 2 _ v2 rfl rfl) tr2
        subst e_by
        obtain ⟨c_by_x, c_by_y, rfl⟩ : ∃ c_by_x c_by_y, cs_by = [c_by_x, c_by_y] := by match cs_by, hl_by with | [x0, x1], _ => exact ⟨x0, x1, rfl⟩
        have o_by_x : Frame.Okc W (.int) c_by_x := hc_by 0 (by decide) (by simp)
        obtain ⟨by_x, e_by_x, w_by_x⟩ := o_by_x.int_inv; subst e_by_x
        have o_by_y : Frame.Okc W (.int) c_by_y := hc_by 1 (by decide) (by simp)
        obtain ⟨by_y, e_by_y, w_by_y⟩ := o_by_y.int_inv; subst e_by_y
        obtain ⟨later, rfl, w_later⟩ := Frame.arg_int Tryz.underlying3 (hval 3 _ v3 rfl rfl)
        exact walk v0 s_lat s_vert by_x by_y later W hL sl_l w_s_lat w_s_vert w_by_x w_by_y (Frame.bd w_later))

/-- The statement. -/
theorem row_holds : Rows.TopShiftSaid :=
  OpenClaim.holds_of_wide 6 Tryz.f6 rfl rfl rfl rfl rfl rfl rfl ⟨rfl, rfl, rfl, rfl, rfl⟩ rfl rfl rfl rfl rfl (by kernel_rfl) Tryz.func6 (by kernel_rfl)
    (of_decide_eq_true (by kernel_rfl)) (by unfold Func.isWrapper; first | (rw [if_pos (by decide +kernel)]; kernel_rfl) | (rw [if_neg (by decide +kernel)]; exact ⟨rfl, rfl⟩))
    (fun os started H enc _ => lifted os started H enc)
/-- The tied card. -/
theorem proved : Rows.TopShiftCardSaid :=
  Claim7.holds_tied_plain_at .later [] [.data, .data, .data] true (true, "5d56dae4b2a688e5e654a1984c708b89ba408b22c31bf1e299093b9bc00c5a55") true
    row_holds (fun _ h => by cases h) (by kernel_rfl) (fun _ h => by cases h) topShift_row_tie rfl ⟨rfl, rfl⟩ (by kernel_rfl) rfl
    (fun f fn hf hfn => by
      obtain rfl : f = 6 := Option.some.inj ((show Tryz.prog.funcNamed "skyway/skywaytop.TopShift" = some 6 by kernel_rfl).symm.trans hf) |>.symm
      obtain rfl : fn = Tryz.f6 := (Option.some.inj (Tryz.func6.symm.trans hfn)).symm
      exact ⟨by kernel_rfl, fun j t ht => by
        rw [Tryz.params6] at ht
        have hall : ∀ t ∈ [69, 25, 54, 3], Tryz.prog.wantsStandIn t = false := by
          intro t ht
          simp only [List.mem_cons, List.not_mem_nil, or_false] at ht
          rcases ht with rfl | rfl | rfl | rfl <;> kernel_rfl
        exact hall t (List.mem_iff_getElem?.2 ⟨j, by simpa using ht⟩)⟩)
    (by kernel_rfl)
#print axioms proved
end TopShift
end Go.Proofs.YteieagihdflapaaGreatDoor

