/- ProbeOrder: the order of two tubes does not matter, and a tube that is not smaller than the separation clashes with itself. For every input. -/
import Derived.Test.YtlgdcpkjobbnnaaProbeM
namespace Go.Proofs.Ytlgdcpkjobbnnaa
open Go.RowKit Go.ChangeShapes Go.WideShapes
namespace ProbeOrder
open Kit Plane Tube Probe
theorem q2_ist {w : World} {b : Nat} {u v : Value} (h : Q2 w b u v) (hu : IsT w u) (hv : IsT w v) : ∀ k, k < 2 → w.cell? ⟨b, k, none⟩ = some ((fun k => if k = 0 then u else v) k) ∧ IsT w ((fun k => if k = 0 then u else v) k) := by
  intro k hk
  rcases (show k = 0 ∨ k = 1 from by omega) with rfl | rfl
  · exact ⟨h.1, hu⟩
  · exact ⟨h.2, hv⟩
theorem ist_of {w : World} {v : Value} {n : Nat} {T X Y H R B : Nat → Int} (h : TV w v n T X Y H R B) : IsT w v := ⟨n, T, X, Y, H, R, B, h⟩
set_option maxRecDepth 100000 in
set_option maxHeartbeats 2000000 in
theorem bad (A A' : Option Addr) (m m' c c' : Nat) (lat ver E E' : Int) (w : World) (I1 : Hid (IsT w (.slice A m c))) (I2 : Hid (IsT w (.slice A' m' c')))
    (P1 : Hid (∀ w1, Below w.heap.size w w1 → Calls Try.prog 32 #[.slice A m c, .slice A' m' c', .agg #[.int .i64 lat, .int .i64 ver]] w1 fun e w' => e = .returned (.tuple #[.slice none 0 0, .int .i64 E]) ∧ Below w1.heap.size w1 w'))
    (P2 : Hid (∀ w1, Below w.heap.size w w1 → Calls Try.prog 32 #[.slice A' m' c', .slice A m c, .agg #[.int .i64 lat, .int .i64 ver]] w1 fun e w' => e = .returned (.tuple #[.slice none 0 0, .int .i64 E']) ∧ Below w1.heap.size w1 w'))
    (hE : E ≠ 0) (hE' : E' ≠ 0) :
    Calls Try.prog 10 #[.slice A m c, .slice A' m' c', .agg #[.int .i64 lat, .int .i64 ver]] w fun e w' => e = .returned (.bool true) ∧ Below w.heap.size w w' := by
  obtain ⟨e1, e2⟩ := ge1 hE; obtain ⟨e3, e4⟩ := ge1 hE'; clear hE hE'
  have HP := Lib.hid (p2_new w 61 lat ver)
  have HW := Lib.hid (b_alloc (Below.refl w.heap.size w) (.cells #[.int .i64 lat, .int .i64 ver] 61))
  go_enter Try.func10, Try.ntmps10
  go_wp2_with fail
  (with_reducible refine (probeWorks _).mono ?_); rintro e w1 ⟨rfl, h⟩
  have W1 := Lib.hid (b_next HW.out h); have P1w := Lib.hid (p2_keep h HP.out); clear h
  have Q1 := Lib.hid (q2_new w1 59 (.slice A m c) (.slice A' m' c'))
  have W1' := Lib.hid (b_alloc W1.out (.cells #[.slice A m c, .slice A' m' c'] 59))
  have P1' := Lib.hid (p2_alloc (.cells #[.slice A m c, .slice A' m' c'] 59) P1w.out)
  go_wp2_with fail
  (with_reducible refine (long_any _ 2 2 _ _ (Nat.le_refl _) (by decide) (Lib.hid (q2_ist Q1.out (isT_keep W1'.out I1.out) (isT_keep W1'.out I2.out)))).mono ?_); rintro e w2 ⟨⟨r, rfl⟩, h⟩
  have W2 := Lib.hid (b_next W1'.out h); obtain ⟨p0, p1⟩ := p2_keep h P1'.out; clear h
  cases r with
  | true =>
    go_wp2_with fail
    go_ret
    exact ⟨retb rfl, W2.out⟩
  | false =>
    go_wp2_with fail
    (with_reducible refine (P1.out _ W2.out).mono ?_); rintro e w3 ⟨rfl, h⟩
    have W3 := Lib.hid (b_next W2.out h); replace p0 := keep h p0; replace p1 := keep h p1; clear h
    go_wp2_with fail
    (with_reducible refine (P2.out _ W3.out).mono ?_); rintro e w4 ⟨rfl, h⟩
    have W4 := Lib.hid (b_next W3.out h); clear h p0 p1
    go_wp2_with fail
    go_ret
    exact ⟨retb rfl, W4.out⟩
abbrev PrC (u v : Value) (lat ver : Int) (M : Nat) (F : Nat → Nat → Int) (w : World) : Prop := ∀ w1, Below w.heap.size w w1 → Calls Try.prog 32 #[u, v, .agg #[.int .i64 lat, .int .i64 ver]] w1 fun e w' => (∃ q, e = .returned (.tuple #[q, .int .i64 0]) ∧ Own w' w1.heap.size 67 2 q M F) ∧ Below w1.heap.size w1 w'
set_option maxRecDepth 100000 in
set_option maxHeartbeats 8000000 in
theorem body (b off b' off' n n' cap cap' M M3 : Nat) (F F3 : Nat → Nat → Int) (T X Y H R B : Nat → Int) (lat ver : Int) (w : World) (h0 : 0 < n) (hn : n ≤ 64) (_hc : n ≤ cap) (_hm : cap ≤ 9223372036854775807) (HV : Hid (∀ k, k < n → S6 w b (off + k * 6) (T k) (X k) (Y k) (H k) (R k) (B k)))
    (I1 : Hid (IsT w (.slice (some ⟨b, off, none⟩) n cap))) (I2 : Hid (IsT w (.slice (some ⟨b', off', none⟩) n' cap'))) (P1 : Hid (PrC (.slice (some ⟨b, off, none⟩) n cap) (.slice (some ⟨b', off', none⟩) n' cap') lat ver M F w)) (P2' : Hid (PrC (.slice (some ⟨b', off', none⟩) n' cap') (.slice (some ⟨b, off, none⟩) n cap) lat ver M F w)) (P3 : Hid (PrC (.slice (some ⟨b, off, none⟩) n cap) (.slice (some ⟨b, off, none⟩) n cap) lat ver M3 F3 w)) (hT : 0 ≤ T (n - 1) ∧ T (n - 1) ≤ 200000)
    (hx : (lat == 0) = true ∨ ((lat == 0) = false ∧ (ver == 0) = true) ∨ ((lat == 0) = false ∧ (ver == 0) = false ∧ M3 = 1 ∧ F3 0 0 = T 0 ∧ F3 0 1 = T (n - 1) + 1)) :
    Calls Try.prog 10 #[.slice (some ⟨b, off, none⟩) n cap, .slice (some ⟨b', off', none⟩) n' cap', .agg #[.int .i64 lat, .int .i64 ver]] w fun e w' => e = .returned (.bool true) ∧ Below w.heap.size w w' := by
  have HP := Lib.hid (p2_new w 61 lat ver)
  have HW := Lib.hid (b_alloc (Below.refl w.heap.size w) (.cells #[.int .i64 lat, .int .i64 ver] 61))
  go_enter Try.func10, Try.ntmps10
  go_wp2_with fail
  (with_reducible refine (probeWorks _).mono ?_); rintro e w1 ⟨rfl, h⟩
  have W1 := Lib.hid (b_next HW.out h); have P1w := Lib.hid (p2_keep h HP.out); clear h
  have Q1 := Lib.hid (q2_new w1 59 (.slice (some ⟨b, off, none⟩) n cap) (.slice (some ⟨b', off', none⟩) n' cap'))
  have W1' := Lib.hid (b_alloc W1.out (.cells #[.slice (some ⟨b, off, none⟩) n cap, .slice (some ⟨b', off', none⟩) n' cap'] 59))
  have P1' := Lib.hid (p2_alloc (.cells #[.slice (some ⟨b, off, none⟩) n cap, .slice (some ⟨b', off', none⟩) n' cap'] 59) P1w.out)
  go_wp2_with fail
  (with_reducible refine (long_any _ 2 2 _ _ (Nat.le_refl _) (by decide) (Lib.hid (q2_ist Q1.out (isT_keep W1'.out I1.out) (isT_keep W1'.out I2.out)))).mono ?_); rintro e w2 ⟨⟨r, rfl⟩, h⟩
  have W2 := Lib.hid (b_next W1'.out h); obtain ⟨p0, p1⟩ := p2_keep h P1'.out; clear h
  cases r with
  | true =>
    go_wp2_with fail
    go_ret
    exact ⟨retb rfl, W2.out⟩
  | false =>
    go_wp2_with fail
    (with_reducible refine (P1.out _ W2.out).mono ?_); rintro e w3 ⟨⟨q1, rfl, o1⟩, h⟩
    have O3 := Lib.hid o1; have W3 := Lib.hid (b_next W2.out h); replace p0 := keep h p0; replace p1 := keep h p1; clear h o1
    go_wp2_with fail
    (with_reducible refine (P2'.out _ W3.out).mono ?_); rintro e w4 ⟨⟨q2, rfl, o2⟩, h⟩
    have o1 := own_keep h O3.out
    have W4 := Lib.hid (b_next W3.out h); replace p0 := keep h p0; replace p1 := keep h p1; clear h
    obtain ⟨A1, c1, rfl, k1, k1'⟩ := own_slice o1
    obtain ⟨A2, c2, rfl, k2, k2'⟩ := own_slice o2
    have k1'' : c1 ≤ 9223372036854775807 := Nat.le_trans k1' (by decide)
    have k2'' : c2 ≤ 9223372036854775807 := Nat.le_trans k2' (by decide)
    have O4 := Lib.hid o1; have O5 := Lib.hid o2; have P4 := Lib.hid (And.intro p0 p1); clear o1 o2 p0 p1 k1' k2'
    have q0 : ((M : Int) == (M : Int)) = true := by simp
    have q0' : ((M : Int) != (M : Int)) = false := by simp
    obtain ⟨wb, rfl⟩ : ∃ wb : World, wb = w4 := ⟨_, rfl⟩
    go_wp2_with fail
    go_loopw [57] (fun s wr => ∃ k : Nat, k ≤ M ∧ s = .int .i64 k ∧ Below wb.heap.size wb wr) (fun s _ => M - (intOf s).toNat)
    case atStart => exact ⟨0, Nat.zero_le _, rfl, Below.refl _ _⟩
    case round =>
      obtain ⟨k, hk, rfl, hbl⟩ := hrel
      have HB := Lib.hid hbl; clear hbl
      by_cases hlt : k < M
      · have hl : (k : Int) < (M : Int) := by omega
        obtain ⟨g1, cc1, he1, -, -, -, -, hr1⟩ := own_row O4.out (show 0 < M by omega)
        obtain ⟨g2, cc2, he2, -, -, -, -, hr2⟩ := own_row O5.out (show 0 < M by omega)
        injection he1 with e1 _ e3
        injection he2 with e2 _ e4
        subst e1 e2 e3 e4
        have r1 := keep HB.out (hr1.cell k hlt 0 (by omega)); have r2 := keep HB.out (hr1.cell k hlt 1 (by omega))
        have r3 := keep HB.out (hr2.cell k hlt 0 (by omega)); have r4 := keep HB.out (hr2.cell k hlt 1 (by omega))
        rw [Nat.add_zero] at r1 r3
        have R1 := Lib.hid (And.intro (And.intro r1 r2) (And.intro r3 r4)); clear r1 r2 r3 r4 hr1 hr2
        go_wp2_with fail
        refine d_region (by kernel_rfl) (by kernel_rfl) ?_
        repeat
          first
            | (refine d_plain (by with_reducible rfl) ?_; apply Exists.intro; refine ⟨fun wq hc hq => ?_, ?_⟩)
            | (refine d_on (by with_reducible rfl) (by rfl) (by with_reducible rfl) ?_; apply Exists.intro; refine ⟨fun wq hc hq => ?_, ?_⟩)
            | (refine d_off (by with_reducible rfl) (by rfl) (by rfl) ?_)
            | (refine d_void (by with_reducible rfl) (by rfl) ?_)
          try any_goals
            (obtain ⟨⟨r1, r2⟩, r3, r4⟩ := R1.out; replace r1 := keep (cls hq) r1; replace r2 := keep (cls hq) r2; replace r3 := keep (cls hq) r3; replace r4 := keep (cls hq) r4; clear hc
             go_simp
             first
               | rfl)
          simp only [Act.put, List.setIfInBounds_toArray, List.set_cons_zero, List.set_cons_succ]
        refine d_nil ?_
        intro w1 hb1
        have HB1 := Lib.hid (b_next HB.out hb1); clear hb1
        go_wp2_with fail
        exact ⟨⟨k + 1, by omega, by go_num, HB1.out⟩, by simp [intOf]; omega⟩
      · have hl : ¬ (k : Int) < (M : Int) := by omega
        have W5 := Lib.hid (b_next W4.out HB.out); obtain ⟨p0, p1⟩ := p2_keep HB.out P4.out
        go_wp2_with fail
        (with_reducible refine (P3.out _ W5.out).mono ?_); rintro e w6 ⟨⟨q3, rfl, o3⟩, h⟩
        have W6 := Lib.hid (b_next W5.out h); replace p0 := keep h p0; replace p1 := keep h p1; clear h
        obtain ⟨A3, c3, rfl, k3, k3'⟩ := own_slice o3
        have k3'' : c3 ≤ 9223372036854775807 := Nat.le_trans k3' (by decide)
        clear k3'
        have O6 := Lib.hid o3; have P6 := Lib.hid (And.intro p0 p1); clear o3 p0 p1
        rcases hx with e1 | ⟨e1, e2⟩ | ⟨e1, e2, rfl, f1, f2⟩
        · go_wp2_with fail
          refine d_region (by kernel_rfl) (by kernel_rfl) ?_
          repeat
            first
              | (refine d_plain (by with_reducible rfl) ?_; apply Exists.intro; refine ⟨fun wq hc hq => ?_, ?_⟩)
              | (refine d_on (by with_reducible rfl) (by rfl) (by with_reducible rfl) ?_; apply Exists.intro; refine ⟨fun wq hc hq => ?_, ?_⟩)
              | (refine d_off (by with_reducible rfl) (by rfl) (by rfl) ?_)
              | (refine d_void (by with_reducible rfl) (by rfl) ?_)
            try any_goals
              (obtain ⟨r1, r2⟩ := p2_keep (cls hq) P6.out; clear hc
               go_simp
               first
                 | rfl)
            simp only [Act.put, List.setIfInBounds_toArray, List.set_cons_zero, List.set_cons_succ]
          refine d_nil ?_
          intro w1 hb1
          go_wp2_with fail
          go_ret
          exact ⟨retb rfl, b_next W6.out hb1⟩
        · go_wp2_with fail
          refine d_region (by kernel_rfl) (by kernel_rfl) ?_
          repeat
            first
              | (refine d_plain (by with_reducible rfl) ?_; apply Exists.intro; refine ⟨fun wq hc hq => ?_, ?_⟩)
              | (refine d_on (by with_reducible rfl) (by rfl) (by with_reducible rfl) ?_; apply Exists.intro; refine ⟨fun wq hc hq => ?_, ?_⟩)
              | (refine d_off (by with_reducible rfl) (by rfl) (by rfl) ?_)
              | (refine d_void (by with_reducible rfl) (by rfl) ?_)
            try any_goals
              (obtain ⟨r1, r2⟩ := p2_keep (cls hq) P6.out; clear hc
               go_simp
               first
                 | rfl)
            simp only [Act.put, List.setIfInBounds_toArray, List.set_cons_zero, List.set_cons_succ]
          refine d_nil ?_
          intro w1 hb1
          go_wp2_with fail
          go_ret
          exact ⟨retb rfl, b_next W6.out hb1⟩
        · obtain ⟨g3, cc3, he3, -, -, -, -, hr3⟩ := own_row O6.out (by omega)
          injection he3 with e3 _ e4
          subst e3 e4
          have r1 := hr3.cell 0 (by omega) 0 (by omega); have r2 := hr3.cell 0 (by omega) 1 (by omega)
          rw [f1, Nat.zero_mul, Nat.add_zero] at r1
          rw [f2, Nat.zero_mul, Nat.zero_add] at r2
          have E0 := Lib.hid (s6_keep W6.out (HV.out 0 h0)); have E1 := Lib.hid (s6_keep W6.out (HV.out (n - 1) (by omega)))
          have R3 := Lib.hid (And.intro r1 r2); clear r1 r2 hr3 f1 f2
          have u0 : (0 : Int) < (n : Int) := by omega
          have u1 : IntKind.i64.wrap ((n : Int) - 1) = ((n - 1 : Nat) : Int) := by rw [IntWalk.i64_in _ (by omega)]; omega
          have u2 : ((n - 1 : Nat) : Int) < (n : Int) := by omega
          have u3 : IntKind.i64.wrap (T (n - 1) + 1) = T (n - 1) + 1 := IntWalk.i64_in _ (by omega)
          have hn0 : 0 < n := h0
          go_wp2_with fail
          refine d_region (by kernel_rfl) (by kernel_rfl) ?_
          repeat
            first
              | (refine d_plain (by with_reducible rfl) ?_; apply Exists.intro; refine ⟨fun wq hc hq => ?_, ?_⟩)
              | (refine d_on (by with_reducible rfl) (by rfl) (by with_reducible rfl) ?_; apply Exists.intro; refine ⟨fun wq hc hq => ?_, ?_⟩)
              | (refine d_off (by with_reducible rfl) (by rfl) (by rfl) ?_)
              | (refine d_void (by with_reducible rfl) (by rfl) ?_)
            try any_goals
              (obtain ⟨r1, r2⟩ := p2_keep (cls hq) P6.out; have r3 := keep (cls hq) R3.out.1; have r4 := keep (cls hq) R3.out.2; have q0 := s6_keep (cls hq) E0.out; have q1 := s6_keep (cls hq) E1.out; rw [Nat.zero_mul, Nat.add_zero] at q0; clear hc
               go_simp
               first
                 | rfl)
            simp only [Act.put, List.setIfInBounds_toArray, List.set_cons_zero, List.set_cons_succ]
          refine d_nil ?_
          intro w1 hb1
          go_wp2_with fail
          go_ret
          exact ⟨retb (by simp), b_next W6.out hb1⟩
theorem sepB_comm (x y h r d x' y' h' r' d' lat ver : Int) : sepB x y h r d x' y' h' r' d' lat ver = sepB x' y' h' r' d' x y h r d lat ver := by
  unfold sepB
  have e : sqr x' y' x y = sqr x y x' y' := by
    unfold sqr
    rw [show x' - x = -(x - x') from by omega, show y' - y = -(y - y') from by omega, Int.neg_mul_neg, Int.neg_mul_neg]
  rw [e, show root (sqr x y x' y') - r' - r = root (sqr x y x' y') - r - r' from by omega, show max (h' - h) (h - h') - d' - d = max (h - h') (h' - h) - d - d' from by omega]
theorem cfT_comm (T X Y H R B : Nat → Int) (n : Nat) (T' X' Y' H' R' B' : Nat → Int) (n' : Nat) (lat ver : Int) : cfT T' X' Y' H' R' B' n' T X Y H R B n lat ver = cfT T X Y H R B n T' X' Y' H' R' B' n' lat ver := by
  funext t
  unfold cfT
  rw [sepB_comm]
theorem cfT_self {T X Y H R B : Nat → Int} {n : Nat} (hp : tok T X Y H R B n) {lat ver t : Int} (hl : 0 < lat) (hv : 0 < ver) (h0 : T 0 ≤ t) (h1 : t ≤ T (n - 1)) : cfT T X Y H R B n T X Y H R B n lat ver t = true := by
  have bd := at_bds hp (segI_spec hp.pos h0) h1
  unfold cfT sepB
  generalize tx T X (segI T n t) t = x at *
  generalize tx T Y (segI T n t) t = y at *
  generalize th T H (segI T n t) t = h at *
  generalize tu T R (segI T n t) t = r at *
  generalize tu T B (segI T n t) t = d at *
  have e : sqr x y x y = 0 := by unfold sqr; rw [Int.sub_self, Int.sub_self]; rfl
  have e0 : root 0 = 0 := root_unique (by omega) (by omega) (by omega)
  rw [e, e0, decide_eq_false (by omega), decide_eq_false (by omega)]
  rfl
theorem twoE_comm {lat ver E E' : Int} (h : twoE lat ver E E' ≠ 0) : twoE lat ver E' E ≠ 0 := by
  intro h'
  obtain ⟨h1, h2, h3⟩ := twoE_zero h'
  apply h
  unfold twoE
  rw [if_neg (fun g => g h1), if_neg (fun g => g h3), h2]
theorem beqs (x y : Int) : ((x == y) = true ∧ x = y) ∨ ((x == y) = false ∧ x ≠ y) := by
  by_cases h : x = y
  · exact Or.inl ⟨by simp [h], h⟩
  · exact Or.inr ⟨by simp [h], h⟩
theorem walk (a : Value) (b : Value) (s_lat : Int) (s_vert : Int) (W : World) (h_a : Frame.Okc W (.sl [.int, .int, .int, .int, .int, .int]) a) (h_b : Frame.Okc W (.sl [.int, .int, .int, .int, .int, .int]) b) (h_s_lat : -9223372036854775808 ≤ s_lat ∧ s_lat ≤ 9223372036854775807) (h_s_vert : -9223372036854775808 ≤ s_vert ∧ s_vert ≤ 9223372036854775807) :
    Calls Try.prog 10 #[a, b, .agg #[.int .i64 s_lat, .int .i64 s_vert]] W fun e w' => e = .returned (.bool true) ∧ Below W.heap.size W w' := by
  obtain ⟨n, T, X, Y, H, R, B, hu⟩ := tv_of h_a
  obtain ⟨n', T', X', Y', H', R', B', hv⟩ := tv_of h_b
  have J1 := ist_of hu
  have J2 := ist_of hv
  by_cases hE : twoE s_lat s_vert (tck T X Y H R B n) (tck T' X' Y' H' R' B' n') = 0
  · obtain ⟨z0, z1, z2⟩ := twoE_zero hE
    have hp := (tck_zero n).1 z1
    have hp' := (tck_zero n').1 z2
    have sb := sepE_zero z0
    have P1 := fun (w1 : World) (hb : Below W.heap.size W w1) => pairC_ok (tv_keep hb hu) (tv_keep hb hv) hp hp' z0
    have P2 := fun (w1 : World) (hb : Below W.heap.size W w1) => pairC_ok (tv_keep hb hv) (tv_keep hb hu) hp' hp z0
    have P3 := fun (w1 : World) (hb : Below W.heap.size W w1) => pairC_ok (tv_keep hb hu) (tv_keep hb hu) hp hp z0
    rw [cfT_comm, show max (T' 0) (T 0) = max (T 0) (T' 0) from by omega, show min (T' (n' - 1)) (T (n - 1)) = min (T (n - 1)) (T' (n' - 1)) from by omega] at P2
    rw [show max (T 0) (T 0) = T 0 from by omega, show min (T (n - 1)) (T (n - 1)) = T (n - 1) from by omega] at P3
    have t0 := hp.time 0 hp.pos
    have tn := hp.time (n - 1) (by have := hp.pos; omega)
    have tl := tok_le hp (show 0 ≤ n - 1 by omega) (show n - 1 < n by have := hp.pos; omega)
    rcases hu with ⟨h0, -⟩ | ⟨h0, b, off, cap, rfl, h1, h2, h3⟩
    · have := hp.pos; omega
    · rcases hv with ⟨k0, -⟩ | ⟨k0, b', off', cap', rfl, k1, k2, k3⟩
      · have := hp'.pos; omega
      · refine body b off b' off' n n' cap cap' _ _ _ _ T X Y H R B s_lat s_vert W h0 hp.small h1 (Nat.le_trans h2 (by decide)) (Lib.hid h3) (Lib.hid J1) (Lib.hid J2) (Lib.hid P1) (Lib.hid P2) (Lib.hid P3) tn ?_
        rcases beqs s_lat 0 with ⟨e, -⟩ | ⟨e, hl⟩
        · exact Or.inl e
        · rcases beqs s_vert 0 with ⟨e', -⟩ | ⟨e', hv⟩
          · exact Or.inr (Or.inl ⟨e, e'⟩)
          · refine Or.inr (Or.inr ⟨e, e', ?_⟩)
            have K : ((T (n - 1) + 1 - T 0).toNat : Int) = T (n - 1) + 1 - T 0 := by omega
            have f := span_full (cf := cfT T X Y H R B n T X Y H R B n s_lat s_vert) (a := T 0) (k := (T (n - 1) + 1 - T 0).toNat) (by omega) (fun t h1 h2 => cfT_self hp (by omega) (by omega) h1 (by omega))
            exact ⟨f.1, f.2.1, by rw [f.2.2]; omega⟩
  · have P1 := fun (w1 : World) (hb : Below W.heap.size W w1) => pairC_bad (tv_keep hb hu) (tv_keep hb hv) hE
    have P2 := fun (w1 : World) (hb : Below W.heap.size W w1) => pairC_bad (tv_keep hb hv) (tv_keep hb hu) (twoE_comm hE)
    obtain ⟨A, c, rfl, -, -⟩ := tv_slice hu
    obtain ⟨A', c', rfl, -, -⟩ := tv_slice hv
    exact bad A A' n n' c c' s_lat s_vert _ _ W (Lib.hid J1) (Lib.hid J2) (Lib.hid P1) (Lib.hid P2) hE (twoE_comm hE)
-- FRAME --

set_option maxRecDepth 100000 in
theorem lifted (os : Os) (started : os.Started) (H : Type) (enc : TypeId × Value → H) :
    ReturnsInHanded {} Try.checked os 10 .any (Rows.probeOrderSpec.pre6 enc Try.prog Try.f10 Rows.probeOrderRow.domain false) (Rows.probeOrderSpec.post enc Try.prog Try.f10 false true false false) :=
  Frame.lifted (C := Try.checked) 10 Try.f10 Try.own started (by kernel_rfl) Try.func10 Try.laidOut rfl (by kernel_rfl) 4 rfl Try.underlying4
      (fun ds h => by match ds, h with | [_, _, _], _ => rfl)
      (ChangeSpec.witness6 (enc := enc) (C := Try.checked) false ⟨#[], #[.slice none 0 0, .slice none 0 0, .agg #[.int .i64 0, .int .i64 0]], []⟩ 8 (by kernel_rfl) (by kernel_rfl) (by kernel_rfl) (by kernel_rfl))
      (fun W base args ds ps hval0 hA _ => by
        have hval : ∀ (j : Nat) t v, Try.f10.params[j]? = some t → args[j]? = some v → Value.okWide Try.prog W .any base t v := hval0
        have hA' : DataW.TrodAll enc Try.prog W 0 (fun _ => true) true Try.f10.params.toList args.toList ds ps := hA
        clear hval0 hA
        have hA := hA'
        clear hA'
        rw [Try.params10] at hA hval
        obtain ⟨v0, vs0, d0, ds0, p0, q0, ea, rfl, rfl, tr0, rest0⟩ := trodAll_cons hA
        obtain ⟨v1, vs1, d1, ds1, p1, q1, rfl, rfl, rfl, tr1, rest1⟩ := trodAll_cons rest0
        obtain ⟨v2, vs2, d2, ds2, p2, q2, rfl, rfl, rfl, tr2, rest2⟩ := trodAll_cons rest1
        obtain ⟨rfl, rfl, rfl⟩ := trodAll_nil rest2
        obtain rfl : args = #[v0, v1, v2] := by cases args; simp_all
        clear ea
        have sl_a : Frame.Okc W (.sl [.int, .int, .int, .int, .int, .int]) v0 := by obtain ⟨a, l, c, e⟩ := okWide_slice Try.underlying59 (hval 0 _ v0 rfl rfl); exact Frame.arg_cell (k := 8) (by kernel_rfl) (by have e2 : v0 = .slice a l c := e; rw [e2]; rfl) tr0
        have sl_b : Frame.Okc W (.sl [.int, .int, .int, .int, .int, .int]) v1 := by obtain ⟨a, l, c, e⟩ := okWide_slice Try.underlying59 (hval 1 _ v1 rfl rfl); exact Frame.arg_cell (k := 8) (by kernel_rfl) (by have e2 : v1 = .slice a l c := e; rw [e2]; rfl) tr1
        obtain ⟨cs_s, e_s, hl_s, hc_s⟩ := Frame.arg_agg Try.underlying61 (k := 8) (ks := [.int, .int]) (by kernel_rfl) (hval 2 _ v2 rfl rfl) tr2
        subst e_s
        obtain ⟨c_s_lat, c_s_vert, rfl⟩ : ∃ c_s_lat c_s_vert, cs_s = [c_s_lat, c_s_vert] := by match cs_s, hl_s with | [x0, x1], _ => exact ⟨x0, x1, rfl⟩
        have o_s_lat : Frame.Okc W (.int) c_s_lat := hc_s 0 (by decide) (by simp)
        obtain ⟨s_lat, e_s_lat, w_s_lat⟩ := o_s_lat.int_inv; subst e_s_lat
        have o_s_vert : Frame.Okc W (.int) c_s_vert := hc_s 1 (by decide) (by simp)
        obtain ⟨s_vert, e_s_vert, w_s_vert⟩ := o_s_vert.int_inv; subst e_s_vert
        exact walk v0 v1 s_lat s_vert W sl_a sl_b w_s_lat w_s_vert)

/-- The statement. -/
theorem proved : Rows.ProbeOrderSaid :=
  OpenClaim.holds_of_wide 10 Try.f10 rfl rfl rfl rfl rfl rfl rfl ⟨rfl, rfl, rfl, rfl, rfl⟩ rfl rfl rfl rfl rfl (by kernel_rfl) Try.func10 (by kernel_rfl)
    (of_decide_eq_true (by kernel_rfl)) (by unfold Func.isWrapper; first | (rw [if_pos (by decide +kernel)]; kernel_rfl) | (rw [if_neg (by decide +kernel)]; exact ⟨rfl, rfl⟩))
    (fun os started H enc _ => lifted os started H enc)
#print axioms proved
end ProbeOrder
end Go.Proofs.Ytlgdcpkjobbnnaa

