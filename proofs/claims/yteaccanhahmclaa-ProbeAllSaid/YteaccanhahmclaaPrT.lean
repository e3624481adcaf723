/- A list of tubes in memory; long and probe.check at it. -/
import Derived.Test.YteaccanhahmclaaProbeM
import Derived.Test.YteaccanhahmclaaTubeL
import Derived.Test.YteaccanhahmclaaChC
namespace Go.Proofs.Yteaccanhahmclaa
open Go.RowKit
namespace Tube
open Kit Plane
set_option maxRecDepth 100000 in
set_option maxHeartbeats 4000000 in
theorem long_at (A0 : Option Addr) (m c : Nat) (vs : Nat → Value) (w : World) (h0 : m ≤ c) (hm : c ≤ 9223372036854775807) (HV : Hid (∀ k, k < m → ∃ b off, A0 = some ⟨b, off, none⟩ ∧ w.cell? ⟨b, off + k, none⟩ = some (vs k) ∧ IsT w (vs k))) :
    Calls Try.prog 33 #[.slice A0 m c] w fun e w' => AnyB e ∧ Below w.heap.size w w' := by
  go_enter Try.func33, Try.ntmps33
  go_wp2_with fail
  go_loopw [7] (fun s wr => ∃ k : Nat, k ≤ m ∧ s = .int .i64 k ∧ Below w.heap.size w wr) (fun s _ => m - (intOf s).toNat)
  case atStart => exact ⟨0, Nat.zero_le _, rfl, Below.refl _ _⟩
  case round =>
    obtain ⟨k, hk, rfl, hbl⟩ := hrel
    by_cases hlt : k < m
    · have hl : (k : Int) < (m : Int) := by omega
      obtain ⟨b, off, rfl, hcell, n, T, X, Y, H, R, B, htv⟩ := HV.out k hlt
      have hcell := keep hbl hcell
      have htv := tv_keep hbl htv
      obtain ⟨A, cap, hv, hnc, hcap⟩ := tv_slice htv
      rw [hv] at hcell htv
      have hcap' : cap ≤ 9223372036854775807 := Nat.le_trans hcap (by decide)
      clear hv hcap
      have HTV := Lib.hid htv; have HB := Lib.hid hbl; clear htv hbl
      by_cases d1 : 12 < (n : Int)
      · have e1 := decide_eq_true d1
        go_wp2_with fail
        refine d_region (by kernel_rfl) (by kernel_rfl) ?_
        repeat
          first
            | (refine d_plain (by with_reducible rfl) ?_; apply Exists.intro; refine ⟨fun wq hc hq => ?_, ?_⟩)
            | (refine d_on (by with_reducible rfl) (by rfl) (by with_reducible rfl) ?_; apply Exists.intro; refine ⟨fun wq hc hq => ?_, ?_⟩)
            | (refine d_off (by with_reducible rfl) (by rfl) (by rfl) ?_)
            | (refine d_void (by with_reducible rfl) (by rfl) ?_)
          try any_goals
            (have q0 := keep (cls hq) hcell; clear hc
             go_simp
             first
               | rfl)
          simp only [Act.put, List.setIfInBounds_toArray, List.set_cons_zero, List.set_cons_succ]
        refine d_nil ?_
        intro w1 hb1
        go_wp2_with fail
        go_ret
        exact ⟨⟨true, rfl⟩, b_next HB.out hb1⟩
      · have e1 := decide_eq_false d1
        by_cases d2 : 0 < (n : Int)
        · have e2 := decide_eq_true d2
          have hn0 : 0 < n := by omega
          have e2' : decide (0 < n) = true := decide_eq_true hn0
          have hr : ∃ b' off', A = some ⟨b', off', none⟩ ∧ ∀ k, k < n → S6 wr b' (off' + k * 6) (T k) (X k) (Y k) (H k) (R k) (B k) := by
            rcases HTV.out with ⟨h, -⟩ | ⟨-, b', off', cap', he, -, -, h3⟩
            · omega
            · injection he with h4; exact ⟨b', off', h4, h3⟩
          obtain ⟨b', off', rfl, h3⟩ := hr
          have E0 := Lib.hid (h3 0 (by omega)); have E1 := Lib.hid (h3 (n - 1) (by omega)); clear h3
          have u1 : IntKind.i64.wrap ((n : Int) - 1) = ((n - 1 : Nat) : Int) := by rw [IntWalk.i64_in _ (by omega)]; omega
          have u2 : ((n - 1 : Nat) : Int) < (n : Int) := by omega
          go_wp2_with fail
          refine d_region (by kernel_rfl) (by kernel_rfl) ?_
          repeat
            first
              | (refine d_plain (by with_reducible rfl) ?_; apply Exists.intro; refine ⟨fun wq hc hq => ?_, ?_⟩)
              | (refine d_on (by with_reducible rfl) (by rfl) (by with_reducible rfl) ?_; apply Exists.intro; refine ⟨fun wq hc hq => ?_, ?_⟩)
              | (refine d_off (by with_reducible rfl) (by rfl) (by rfl) ?_)
              | (refine d_void (by with_reducible rfl) (by rfl) ?_)
            try any_goals
              (have q0 := s6_keep (cls hq) E0.out; have q1 := s6_keep (cls hq) E1.out; rw [Nat.zero_mul, Nat.add_zero] at q0; clear hc
               go_simp
               first
                 | rfl)
            simp only [Act.put, List.setIfInBounds_toArray, List.set_cons_zero, List.set_cons_succ]
          refine d_nil ?_
          intro w1 hb1
          have HB1 := Lib.hid (b_next HB.out hb1); clear hb1
          by_cases d3 : 1500 < IntKind.i64.wrap (T (n - 1) - T 0)
          · have e3 := decide_eq_true d3
            go_wp2_with fail
            go_ret
            exact ⟨⟨true, rfl⟩, HB1.out⟩
          · have e3 := decide_eq_false d3
            go_wp2_with fail
            exact ⟨⟨k + 1, by omega, by go_num, HB1.out⟩, by simp [intOf]; omega⟩
        · have e2 := decide_eq_false d2
          have e2' : decide (0 < n) = false := decide_eq_false (by omega)
          go_wp2_with fail
          refine d_region (by kernel_rfl) (by kernel_rfl) ?_
          repeat
            first
              | (refine d_plain (by with_reducible rfl) ?_; apply Exists.intro; refine ⟨fun wq hc hq => ?_, ?_⟩)
              | (refine d_on (by with_reducible rfl) (by rfl) (by with_reducible rfl) ?_; apply Exists.intro; refine ⟨fun wq hc hq => ?_, ?_⟩)
              | (refine d_off (by with_reducible rfl) (by rfl) (by rfl) ?_)
              | (refine d_void (by with_reducible rfl) (by rfl) ?_)
            try any_goals
              (have q0 := keep (cls hq) hcell; clear hc
               go_simp
               first
                 | rfl)
            simp only [Act.put, List.setIfInBounds_toArray, List.set_cons_zero, List.set_cons_succ]
          refine d_nil ?_
          intro w1 hb1
          have HB1 := Lib.hid (b_next HB.out hb1); clear hb1
          go_wp2_with fail
          exact ⟨⟨k + 1, by omega, by go_num, HB1.out⟩, by simp [intOf]; omega⟩
    · have hl : ¬ (k : Int) < (m : Int) := by omega
      go_wp2_with fail
      go_ret
      exact ⟨⟨false, rfl⟩, hbl⟩
end Tube
namespace Probe
open Kit Plane Tube
set_option maxRecDepth 100000 in
set_option maxHeartbeats 4000000 in
theorem check_at (A0 : Option Addr) (m c : Nat) (A : Nat → Option Addr) (N K : Nat → Nat) (es : Nat → Int) (lat ver : Int) (w : World) (hs : sepE lat ver = 0) (hc : m ≤ c) (hm : c ≤ 9223372036854775807) (HV : Hid (∀ k, k < m → ∃ b off, A0 = some ⟨b, off, none⟩ ∧ w.cell? ⟨b, off + k, none⟩ = some (.slice (A k) (N k) (K k)))) (C : Hid (∀ k, k < m → CkC (.slice (A k) (N k) (K k)) (es k) w)) :
    Calls Try.prog 98 #[.agg #[.int .i64 lat, .int .i64 ver], .slice A0 m c] w fun e w' => e = .returned (.int .i64 (firstE es m)) ∧ Below w.heap.size w w' := by
  have HP := Lib.hid (p2_new w 95 lat ver)
  have HW := Lib.hid (b_alloc (Below.refl w.heap.size w) (.cells #[.int .i64 lat, .int .i64 ver] 95))
  have CS := Lib.hid (fun w => by have c := checkSep lat ver w; rw [hs] at c; exact c)
  clear hs
  go_enter Try.func98, Try.ntmps98
  go_wp2_with fail
  (with_reducible refine (CS.out _).mono ?_); rintro e w1 ⟨rfl, h⟩
  have W1 := Lib.hid (b_next HW.out h); clear h
  go_wp2_with fail
  go_loopw [16] (fun s wr => ∃ k : Nat, k ≤ m ∧ s = .int .i64 k ∧ firstE es k = 0 ∧ Below w.heap.size w wr) (fun s _ => m - (intOf s).toNat)
  case atStart => exact ⟨0, Nat.zero_le _, rfl, rfl, W1.out⟩
  case round =>
    obtain ⟨k, hk, rfl, hf, hbl⟩ := hrel
    have HF := Lib.hid hf; have HB := Lib.hid hbl; clear hf
    by_cases hlt : k < m
    · have hl : (k : Int) < (m : Int) := by omega
      obtain ⟨b, off, rfl, hcell⟩ := HV.out k hlt
      have hcell := keep hbl hcell
      have CK := Lib.hid (C.out k hlt)
      clear hbl
      by_cases hE : es k = 0
      · rw [hE] at CK
        have HE := Lib.hid hE; clear hE
        go_wp2_with fail
        (with_reducible refine (CK.out _ HB.out).mono ?_); rintro e w2 ⟨rfl, h⟩
        have HB2 := Lib.hid (b_next HB.out h); clear h
        go_wp2_with fail
        exact ⟨⟨k + 1, by omega, by go_num, by rw [first_step HF.out]; exact HE.out, HB2.out⟩, by simp [intOf]; omega⟩
      · have HFE := Lib.hid (first_stop HF.out hlt hE)
        obtain ⟨hE1, hE2⟩ := ge1 hE; clear hE
        go_wp2_with fail
        (with_reducible refine (CK.out _ HB.out).mono ?_); rintro e w2 ⟨rfl, h⟩
        have HB2 := Lib.hid (b_next HB.out h); clear h
        go_wp2_with fail
        go_ret
        exact ⟨ret1 HFE.out.symm, HB2.out⟩
    · have he : k = m := by omega
      have HE := Lib.hid he
      have hl : ¬ (k : Int) < (m : Int) := by omega
      clear he
      go_wp2_with fail
      go_ret
      exact ⟨ret1 (by rw [← HE.out]; exact HF.out.symm), hbl⟩
/-- What a tube is. -/
structure Td where
  n : Nat
  T : Nat → Int
  X : Nat → Int
  Y : Nat → Int
  H : Nat → Int
  R : Nat → Int
  B : Nat → Int
abbrev TD (w : World) (u : Value) (d : Td) : Prop := TV w u d.n d.T d.X d.Y d.H d.R d.B
/-- A list of tubes. -/
def TsV (w : World) (v : Value) (m : Nat) (D : Nat → Td) : Prop :=
  (m = 0 ∧ Chart.Nil0 v) ∨ (0 < m ∧ ∃ b off cap, v = .slice (some ⟨b, off, none⟩) m cap ∧ m ≤ cap ∧ cap ≤ maxLen ∧ ∀ k, k < m → ∃ u, w.cell? ⟨b, off + k, none⟩ = some u ∧ TD w u (D k))
theorem ts_keep {W w1 : World} (hb : Below W.heap.size W w1) {v : Value} {m : Nat} {D : Nat → Td} (h : TsV W v m D) : TsV w1 v m D := by
  rcases h with h | ⟨h0, b, off, cap, hv, h1, h2, h3⟩
  · exact Or.inl h
  · exact Or.inr ⟨h0, b, off, cap, hv, h1, h2, fun k hk => (h3 k hk).elim fun u hu => ⟨u, keep hb hu.1, tv_keep hb hu.2⟩⟩
theorem ts_at {w : World} {v : Value} {m : Nat} {D : Nat → Td} (h : TsV w v m D) (h0 : 0 < m) : ∃ b off cap, v = .slice (some ⟨b, off, none⟩) m cap ∧ m ≤ cap ∧ cap ≤ maxLen ∧ ∀ k, k < m → ∃ u, w.cell? ⟨b, off + k, none⟩ = some u ∧ TD w u (D k) := by
  rcases h with ⟨h1, -⟩ | ⟨-, h⟩
  · omega
  · exact h
theorem ts_slice {w : World} {v : Value} {m : Nat} {D : Nat → Td} (h : TsV w v m D) : ∃ A cap, v = .slice A m cap ∧ m ≤ cap ∧ cap ≤ maxLen := by
  rcases h with ⟨rfl, rfl | ⟨a, cap, rfl, hm⟩⟩ | ⟨h0, b, off, cap, rfl, h1, h2, h3⟩
  · exact ⟨_, _, rfl, Nat.le_refl _, Nat.zero_le _⟩
  · exact ⟨_, _, rfl, Nat.zero_le _, hm⟩
  · exact ⟨_, _, rfl, h1, h2⟩
/-- The first tubes of a list. -/
theorem ts_take {w : World} {A : Option Addr} {m cap : Nat} {D : Nat → Td} (h : TsV w (.slice A m cap) m D) {k : Nat} (hk : k ≤ m) (hm : cap ≤ maxLen) (h0 : 0 < m) : TsV w (.slice A k cap) k D := by
  obtain ⟨b, off, c, e, h1, h2, h3⟩ := ts_at h h0
  injection e with e1 _ e3
  subst e1 e3
  rcases Nat.eq_zero_or_pos k with rfl | hk0
  · exact Or.inl ⟨rfl, Or.inr ⟨_, _, rfl, hm⟩⟩
  · exact Or.inr ⟨hk0, b, off, cap, rfl, by omega, hm, fun j hj => h3 j (by omega)⟩
/-- An argument of tubes. -/
theorem ts_of {W : World} {v : Value} (h : Frame.Okc W (.sl [.sl [.int, .int, .int, .int, .int, .int]]) v) : ∃ m D, TsV W v m D := by
  rcases Frame.Okc.sl_inv h with rfl | ⟨a, cap, rfl, hc⟩ | ⟨b, off, len, cap, cells, rfl, h0, h1, h2, h3, h4⟩
  · exact ⟨0, fun _ => ⟨0, fun _ => 0, fun _ => 0, fun _ => 0, fun _ => 0, fun _ => 0, fun _ => 0⟩, Or.inl ⟨rfl, Or.inl rfl⟩⟩
  · exact ⟨0, fun _ => ⟨0, fun _ => 0, fun _ => 0, fun _ => 0, fun _ => 0, fun _ => 0, fun _ => 0⟩, Or.inl ⟨rfl, Or.inr ⟨_, _, rfl, hc⟩⟩⟩
  · have one : ∀ i, i < len → ∃ d, ∃ u, W.cell? ⟨b, off + i, none⟩ = some u ∧ TD W u d := fun i hi => by
      obtain ⟨n, T, X, Y, H, R, B, q⟩ := tv_of (h4 i hi 0 (by decide))
      have c := h3 i hi 0 (by decide)
      exact ⟨⟨n, T, X, Y, H, R, B⟩, _, by rw [show off + i = off + i * 1 + 0 by omega]; exact c, q⟩
    classical
    refine ⟨len, fun i => if h : i < len then Classical.choose (one i h) else ⟨0, fun _ => 0, fun _ => 0, fun _ => 0, fun _ => 0, fun _ => 0, fun _ => 0⟩, Or.inr ⟨h0, b, off, cap, rfl, h1, h2, fun k hk => ?_⟩⟩
    simp only [dif_pos hk]
    exact Classical.choose_spec (one k hk)
/-- Which tube is wrong first. -/
def tse (D : Nat → Td) (k : Nat) : Int := tck (D k).T (D k).X (D k).Y (D k).H (D k).R (D k).B (D k).n
theorem longC {w : World} {v : Value} {m : Nat} {D : Nat → Td} (h : TsV w v m D) : Calls Try.prog 33 #[v] w fun e w' => AnyB e ∧ Below w.heap.size w w' := by
  rcases h with ⟨rfl, rfl | ⟨a, cap, rfl, hm⟩⟩ | ⟨h0, b, off, cap, rfl, h1, h2, h3⟩
  · exact long_at none 0 0 (fun _ => .slice none 0 0) w (Nat.le_refl _) (by decide) (Lib.hid fun k hk => absurd hk (Nat.not_lt_zero k))
  · exact long_at (some a) 0 cap (fun _ => .slice none 0 0) w (Nat.zero_le _) (Nat.le_trans hm (by decide)) (Lib.hid fun k hk => absurd hk (Nat.not_lt_zero k))
  · have e : ∀ k, ∃ u, k < m → w.cell? ⟨b, off + k, none⟩ = some u ∧ TD w u (D k) := fun k => by
      by_cases hk : k < m
      · exact (h3 k hk).elim fun u hu => ⟨u, fun _ => hu⟩
      · exact ⟨undef, fun h => absurd h hk⟩
    obtain ⟨vs, hvs⟩ := Classical.axiomOfChoice e
    exact long_at _ m cap vs w h1 (Nat.le_trans h2 (by decide)) (Lib.hid fun k hk => ⟨b, off, rfl, (hvs k hk).1, _, _, _, _, _, _, _, (hvs k hk).2⟩)
theorem checkTs {w : World} {v : Value} {m : Nat} {D : Nat → Td} (h : TsV w v m D) {lat ver : Int} (hs : sepE lat ver = 0) :
    Calls Try.prog 98 #[.agg #[.int .i64 lat, .int .i64 ver], v] w fun e w' => e = .returned (.int .i64 (firstE (tse D) m)) ∧ Below w.heap.size w w' := by
  rcases h with ⟨rfl, rfl | ⟨a, cap, rfl, hm⟩⟩ | ⟨h0, b, off, cap, rfl, h1, h2, h3⟩
  · exact check_at none 0 0 (fun _ => none) (fun _ => 0) (fun _ => 0) (tse D) lat ver w hs (Nat.le_refl _) (by decide) (Lib.hid fun k hk => absurd hk (Nat.not_lt_zero k)) (Lib.hid fun k hk => absurd hk (Nat.not_lt_zero k))
  · exact check_at (some a) 0 cap (fun _ => none) (fun _ => 0) (fun _ => 0) (tse D) lat ver w hs (Nat.zero_le _) (Nat.le_trans hm (by decide)) (Lib.hid fun k hk => absurd hk (Nat.not_lt_zero k)) (Lib.hid fun k hk => absurd hk (Nat.not_lt_zero k))
  · have e : ∀ k, ∃ q : Option Addr × Nat, k < m → w.cell? ⟨b, off + k, none⟩ = some (.slice q.1 (D k).n q.2) ∧ TD w (.slice q.1 (D k).n q.2) (D k) := fun k => by
      by_cases hk : k < m
      · obtain ⟨u, hu1, hu2⟩ := h3 k hk
        obtain ⟨A, c, rfl, -, -⟩ := tv_slice hu2
        exact ⟨(A, c), fun _ => ⟨hu1, hu2⟩⟩
      · exact ⟨(none, 0), fun h => absurd h hk⟩
    obtain ⟨vs, hvs⟩ := Classical.axiomOfChoice e
    exact check_at _ m cap (fun k => (vs k).1) (fun k => (D k).n) (fun k => (vs k).2) (tse D) lat ver w hs h1 (Nat.le_trans h2 (by decide)) (Lib.hid fun k hk => ⟨b, off, rfl, (hvs k hk).1⟩) (Lib.hid fun k hk => checkC (hvs k hk).2)
end Probe
end Go.Proofs.Yteaccanhahmclaa
