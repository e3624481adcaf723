/- TopWidening: tubes that contain others have all of their clashes. For every input, where math's tables read as Go's library lays them. -/
import Derived.Test.YteieagihdflapaaGreatDoorTopH
import Derived.Test.YteieagihdflapaaGreatDoorJ35
import Derived.Test.YteieagihdflapaaGreatDoorJ36
import Derived.Test.YteieagihdflapaaGreatDoorDoorA
import Derived.Test.YteieagihdflapaaGreatDoorJ07
import Derived.Test.YteieagihdflapaaGreatDoorCards
namespace Go.Proofs.YteieagihdflapaaGreatDoor
open Go.RowKit Go.ChangeShapes Go.WideShapes
namespace TopWidening
open Kit Plane Tube Probe
theorem dot_le {px py qx qy u v : Int} (hu : 0 ≤ u) (hv : 0 ≤ v) (h1 : px * px + py * py ≤ u * u) (h2 : qx * qx + qy * qy ≤ v * v) : px * qx + py * qy ≤ u * v := by
  have hid : (px * qx + py * qy) * (px * qx + py * qy) + (px * qy - py * qx) * (px * qy - py * qx) = (px * px + py * py) * (qx * qx + qy * qy) := by grind
  have hs := sq_nonneg (px * qy - py * qx)
  have hq0 : 0 ≤ qx * qx + qy * qy := by have := sq_nonneg qx; have := sq_nonneg qy; omega
  have hm : (px * px + py * py) * (qx * qx + qy * qy) ≤ (u * u) * (v * v) := Int.mul_le_mul h1 h2 hq0 (sq_nonneg u)
  have he : (u * u) * (v * v) = (u * v) * (u * v) := by grind
  refine le_of_sq (Int.mul_nonneg hu hv) ?_
  generalize (px * qx + py * qy) * (px * qx + py * qy) = a at *
  generalize (px * qy - py * qx) * (px * qy - py * qx) = b at *
  omega
/-- The distance, rounded down, from the nearer point and the way between, rounded up. -/
theorem root_tri {ax ay wx wy qx qy : Int} : root (sqr wx wy qx qy) ≤ dup (sqr ax ay wx wy) + root (sqr ax ay qx qy) := by
  have s1 := sqr_nonneg ax ay wx wy
  have s2 := sqr_nonneg ax ay qx qy
  have s3 := sqr_nonneg wx wy qx qy
  have d1 := dup_spec s1
  have r2 := root_spec s2
  have r3 := root_spec s3
  obtain ⟨c, hc⟩ : ∃ c, c = dup (sqr ax ay wx wy) := ⟨_, rfl⟩
  obtain ⟨p, hp⟩ : ∃ p, p = root (sqr ax ay qx qy) := ⟨_, rfl⟩
  obtain ⟨m, hm⟩ : ∃ m, m = root (sqr wx wy qx qy) := ⟨_, rfl⟩
  rw [← hc] at d1 ⊢
  rw [← hp] at r2 ⊢
  rw [← hm] at r3 ⊢
  rcases Int.lt_or_le (c + p) m with hl | hl
  · exfalso
    have h1 : (wx - ax) * (wx - ax) + (wy - ay) * (wy - ay) ≤ c * c := by
      have := d1.2.1; unfold sqr at this
      rw [show wx - ax = -(ax - wx) from by omega, show wy - ay = -(ay - wy) from by omega, Int.neg_mul_neg, Int.neg_mul_neg]; exact this
    have h2 : (ax - qx) * (ax - qx) + (ay - qy) * (ay - qy) < (p + 1) * (p + 1) := by have := r2.2.2; unfold sqr at this; exact this
    have dt := dot_le (u := c) (v := p + 1) d1.1 (by omega) h1 (Int.le_of_lt h2)
    have e1 : sqr wx wy qx qy = ((wx - ax) * (wx - ax) + (wy - ay) * (wy - ay)) + ((ax - qx) * (ax - qx) + (ay - qy) * (ay - qy)) + 2 * ((wx - ax) * (ax - qx) + (wy - ay) * (ay - qy)) := by unfold sqr; grind
    have e2 : (c + (p + 1)) * (c + (p + 1)) = c * c + (p + 1) * (p + 1) + 2 * (c * (p + 1)) := by grind
    have e3 : (c + (p + 1)) * (c + (p + 1)) ≤ m * m := Int.mul_le_mul (by omega) (by omega) (by omega) (by omega)
    have e4 := r3.2.1
    rw [e1] at e4
    generalize (wx - ax) * (wx - ax) + (wy - ay) * (wy - ay) = A at *
    generalize (ax - qx) * (ax - qx) + (ay - qy) * (ay - qy) = B at *
    generalize (wx - ax) * (ax - qx) + (wy - ay) * (ay - qy) = C at *
    generalize c * (p + 1) = E at *
    generalize m * m = M at *
    generalize (p + 1) * (p + 1) = F at *
    generalize c * c = G at *
    omega
  · exact hl
/-- What separates a node from another one that contains it separates it from this one. -/
theorem sep_in {x y h r d wx wy wh wr wd qx qy qh qr qd lat ver : Int} (hi : inN x y h r d wx wy wh wr wd = true) (hs : sepB wx wy wh wr wd qx qy qh qr qd lat ver = true) : sepB x y h r d qx qy qh qr qd lat ver = true := by
  unfold inN at hi
  unfold sepB at hs ⊢
  simp only [Bool.and_eq_true, Bool.or_eq_true, decide_eq_true_eq] at hi hs ⊢
  have t := root_tri (ax := x) (ay := y) (wx := wx) (wy := wy) (qx := qx) (qy := qy)
  rcases hs with hs | hs
  · left; omega
  · right; omega
/-- The spans of more times at which more is not separated contain those of fewer. -/
theorem span_sub {cf cf' : Int → Bool} {a a' : Int} {k k' : Nat} (ha : a' ≤ a) (hk : a + k ≤ a' + k') (h : ∀ t, a ≤ t → t < a + k → cf t = true → cf' t = true) {i : Nat} (hi : i < (spanN cf a k).1) : ∃ j, j < (spanN cf' a' k').1 ∧ (spanN cf' a' k').2 j 0 ≤ (spanN cf a k).2 i 0 ∧ (spanN cf a k).2 i 1 ≤ (spanN cf' a' k').2 j 1 := by
  have ok := spanN_ok cf a k
  have ok' := spanN_ok cf' a' k'
  have l := ok.le i hi
  have hit : ∀ t, (spanN cf a k).2 i 0 ≤ t → t < (spanN cf a k).2 i 1 → cf' t = true := fun t h1 h2 => h t (by omega) (by omega) (ok.hit i hi t h1 h2)
  obtain ⟨j, hj, j1, j2⟩ := ok'.all ((spanN cf a k).2 i 0) (by omega) (by omega) (hit _ (Int.le_refl _) (by omega))
  refine ⟨j, hj, j1, ?_⟩
  have lj := ok'.le j hj
  rcases Int.lt_or_le ((spanN cf' a' k').2 j 1) ((spanN cf a k).2 i 1) with hl | hl
  · exfalso
    obtain ⟨q, hq, q1, q2⟩ := ok'.all ((spanN cf' a' k').2 j 1) (by omega) (by omega) (hit _ (by omega) hl)
    have step : ∀ p r, p < r → r < (spanN cf' a' k').1 → (spanN cf' a' k').2 p 1 < (spanN cf' a' k').2 r 0 := by
      intro p r
      induction r with
      | zero => intro h; omega
      | succ r ih =>
        intro hpr hrm
        have g := ok'.gap r hrm
        rcases Nat.lt_or_ge p r with h' | h'
        · have := ih h' (by omega); have := ok'.le r (by omega); omega
        · rw [show p = r from by omega]; exact g
    rcases Nat.lt_trichotomy j q with h' | h' | h'
    · have := step j q h' hq; omega
    · subst h'; omega
    · have := step q j h' hj; omega
  · exact hl
set_option maxRecDepth 100000 in
set_option maxHeartbeats 4000000 in
theorem long_any (b m c : Nat) (vs : Nat → Value) (w : World) (h0 : m ≤ c) (hm : c ≤ 9223372036854775807) (HV : Hid (∀ k, k < m → w.cell? ⟨b, k, none⟩ = some (vs k) ∧ IsT w (vs k))) :
    Calls Tryz.prog 10 #[.slice (some ⟨b, 0, none⟩) m c] w fun e w' => AnyB e ∧ Below w.heap.size w w' := by
  go_enter Tryz.func10, Tryz.ntmps10
  go_wp2_with fail
  go_loopw [7] (fun s wr => ∃ k : Nat, k ≤ m ∧ s = .int .i64 k ∧ Below w.heap.size w wr) (fun s _ => m - (intOf s).toNat)
  case atStart => exact ⟨0, Nat.zero_le _, rfl, Below.refl _ _⟩
  case round =>
    obtain ⟨k, hk, rfl, hbl⟩ := hrel
    by_cases hlt : k < m
    · have hl : (k : Int) < (m : Int) := by omega
      obtain ⟨hcell, n, T, X, Y, H, R, B, htv⟩ := HV.out k hlt
      have hcell := keep hbl hcell
      have htv := tv_keep hbl htv
      obtain ⟨A, cap, hv, hnc, hcap⟩ := tv_slice htv
      rw [hv] at hcell htv
      have hcap' : cap ≤ 9223372036854775807 := Nat.le_trans hcap (by decide)
      clear hv hcap
      have HTV := Lib.hid htv; have HB := Lib.hid hbl; clear htv hbl
      by_cases d1 : 12 < (n : Int)
      · have e1 := decide_eq_true d1
        go_wp2_with fail
        refine d_region (by kernel_rfl) (by kernel_rfl) ?_
        repeat
          first
            | (refine d_plain (by with_reducible rfl) ?_; apply Exists.intro; refine ⟨fun wq hc hq => ?_, ?_⟩)
            | (refine d_on (by with_reducible rfl) (by rfl) (by with_reducible rfl) ?_; apply Exists.intro; refine ⟨fun wq hc hq => ?_, ?_⟩)
            | (refine d_off (by with_reducible rfl) (by rfl) (by rfl) ?_)
            | (refine d_void (by with_reducible rfl) (by rfl) ?_)
          try any_goals
            (have q0 := keep (cls hq) hcell; clear hc
             go_simp
             first
               | rfl)
          simp only [Act.put, List.setIfInBounds_toArray, List.set_cons_zero, List.set_cons_succ]
        refine d_nil ?_
        intro w1 hb1
        go_wp2_with fail
        go_ret
        exact ⟨⟨true, rfl⟩, b_next HB.out hb1⟩
      · have e1 := decide_eq_false d1
        by_cases d2 : 0 < (n : Int)
        · have e2 := decide_eq_true d2
          have hn0 : 0 < n := by omega
          have e2' : decide (0 < n) = true := decide_eq_true hn0
          have hr : ∃ b' off, A = some ⟨b', off, none⟩ ∧ ∀ k, k < n → S6 wr b' (off + k * 6) (T k) (X k) (Y k) (H k) (R k) (B k) := by
            rcases HTV.out with ⟨h, -⟩ | ⟨-, b', off, cap', he, -, -, h3⟩
            · omega
            · injection he with h4; exact ⟨b', off, h4, h3⟩
          obtain ⟨b', off, rfl, h3⟩ := hr
          have E0 := Lib.hid (h3 0 (by omega)); have E1 := Lib.hid (h3 (n - 1) (by omega)); clear h3
          have u1 : IntKind.i64.wrap ((n : Int) - 1) = ((n - 1 : Nat) : Int) := by rw [IntWalk.i64_in _ (by omega)]; omega
          have u2 : ((n - 1 : Nat) : Int) < (n : Int) := by omega
          go_wp2_with fail
          refine d_region (by kernel_rfl) (by kernel_rfl) ?_
          repeat
            first
              | (refine d_plain (by with_reducible rfl) ?_; apply Exists.intro; refine ⟨fun wq hc hq => ?_, ?_⟩)
              | (refine d_on (by with_reducible rfl) (by rfl) (by with_reducible rfl) ?_; apply Exists.intro; refine ⟨fun wq hc hq => ?_, ?_⟩)
              | (refine d_off (by with_reducible rfl) (by rfl) (by rfl) ?_)
              | (refine d_void (by with_reducible rfl) (by rfl) ?_)
            try any_goals
              (have q0 := s6_keep (cls hq) E0.out; have q1 := s6_keep (cls hq) E1.out; rw [Nat.zero_mul, Nat.add_zero] at q0; clear hc
               go_simp
               first
                 | rfl)
            simp only [Act.put, List.setIfInBounds_toArray, List.set_cons_zero, List.set_cons_succ]
          refine d_nil ?_
          intro w1 hb1
          have HB1 := Lib.hid (b_next HB.out hb1); clear hb1
          by_cases d3 : 1200 < IntKind.i64.wrap (T (n - 1) - T 0)
          · have e3 := decide_eq_true d3
            go_wp2_with fail
            go_ret
            exact ⟨⟨true, rfl⟩, HB1.out⟩
          · have e3 := decide_eq_false d3
            go_wp2_with fail
            exact ⟨⟨k + 1, by omega, by go_num, HB1.out⟩, by simp [intOf]; omega⟩
        · have e2 := decide_eq_false d2
          have e2' : decide (0 < n) = false := decide_eq_false (by omega)
          go_wp2_with fail
          refine d_region (by kernel_rfl) (by kernel_rfl) ?_
          repeat
            first
              | (refine d_plain (by with_reducible rfl) ?_; apply Exists.intro; refine ⟨fun wq hc hq => ?_, ?_⟩)
              | (refine d_on (by with_reducible rfl) (by rfl) (by with_reducible rfl) ?_; apply Exists.intro; refine ⟨fun wq hc hq => ?_, ?_⟩)
              | (refine d_off (by with_reducible rfl) (by rfl) (by rfl) ?_)
              | (refine d_void (by with_reducible rfl) (by rfl) ?_)
            try any_goals
              (have q0 := keep (cls hq) hcell; clear hc
               go_simp
               first
                 | rfl)
            simp only [Act.put, List.setIfInBounds_toArray, List.set_cons_zero, List.set_cons_succ]
          refine d_nil ?_
          intro w1 hb1
          have HB1 := Lib.hid (b_next HB.out hb1); clear hb1
          go_wp2_with fail
          exact ⟨⟨k + 1, by omega, by go_num, HB1.out⟩, by simp [intOf]; omega⟩
    · have hl : ¬ (k : Int) < (m : Int) := by omega
      go_wp2_with fail
      go_ret
      exact ⟨⟨false, rfl⟩, hbl⟩
def q3f (u v x : Value) (k : Nat) : Value := if k = 0 then u else if k = 1 then v else x
theorem q3_new (w : World) (t : TypeId) (u v x : Value) : ∀ k, k < 3 → (w.alloc (.cells #[u, v, x] t)).cell? ⟨w.heap.size, k, none⟩ = some (q3f u v x k) := fun k hk => by
  rcases (show k = 0 ∨ k = 1 ∨ k = 2 by omega) with rfl | rfl | rfl <;> simp [q3f]
theorem q3_ist {w : World} {b : Nat} {u v x : Value} (h : ∀ k, k < 3 → w.cell? ⟨b, k, none⟩ = some (q3f u v x k)) (hu : IsT w u) (hv : IsT w v) (hx : IsT w x) : ∀ k, k < 3 → w.cell? ⟨b, k, none⟩ = some (q3f u v x k) ∧ IsT w (q3f u v x k) := fun k hk => by
  refine ⟨h k hk, ?_⟩
  rcases (show k = 0 ∨ k = 1 ∨ k = 2 by omega) with rfl | rfl | rfl
  · exact hu
  · exact hv
  · exact hx
theorem ist_of {w : World} {v : Value} {n : Nat} {T X Y H R B : Nat → Int} (h : TV w v n T X Y H R B) : IsT w v := ⟨n, T, X, Y, H, R, B, h⟩
set_option maxRecDepth 100000 in
set_option maxHeartbeats 8000000 in
theorem bad (A A' A'' : Option Addr) (m m' m'' c c' c'' : Nat) (lat ver : Int) (E : Int) (w : World) (WK : Hid (∀ w1, Below w.heap.size w w1 → Calls Tryz.prog 9 #[] w1 fun e w' => e = .returned (.bool true) ∧ Below w1.heap.size w1 w')) (I1 : Hid (IsT w (.slice A m c))) (I2 : Hid (IsT w (.slice A' m' c'))) (I3 : Hid (IsT w (.slice A'' m'' c'')))
    (IN : Hid (∀ w1, Below w.heap.size w w1 → Calls Tryz.prog 11 #[.slice A m c, .slice A'' m'' c''] w1 fun e w' => e = .returned (.tuple #[.bool false, .int .i64 E]) ∧ Below w1.heap.size w1 w')) (hE : (E = 0 ∧ (E == 0) = true ∧ (E != 0) = false) ∨ (E ≠ 0 ∧ (E == 0) = false ∧ (E != 0) = true)) :
    Calls Tryz.prog 3 #[.slice A m c, .slice A' m' c', .slice A'' m'' c'', .agg #[.int .i64 lat, .int .i64 ver]] w fun e w' => e = .returned (.bool true) ∧ Below w.heap.size w w' := by
  have HP := Lib.hid (p2_new w 25 lat ver)
  have HW := Lib.hid (b_alloc (Below.refl w.heap.size w) (.cells #[.int .i64 lat, .int .i64 ver] 25))
  go_enter Tryz.func3, Tryz.ntmps3
  go_wp2_with fail
  (with_reducible refine (WK.out _ HW.out).mono ?_); rintro e w1 ⟨rfl, h⟩
  have W1 := Lib.hid (b_next HW.out h); have P1w := Lib.hid (p2_keep h HP.out); clear h
  have Q1 := Lib.hid (q3_new w1 23 (.slice A m c) (.slice A' m' c') (.slice A'' m'' c''))
  have W1' := Lib.hid (b_alloc W1.out (.cells #[.slice A m c, .slice A' m' c', .slice A'' m'' c''] 23))
  have P1' := Lib.hid (p2_alloc (.cells #[.slice A m c, .slice A' m' c', .slice A'' m'' c''] 23) P1w.out)
  go_wp2_with fail
  (with_reducible refine (long_any _ 3 3 _ _ (Nat.le_refl _) (by decide) (Lib.hid (q3_ist Q1.out (isT_keep W1'.out I1.out) (isT_keep W1'.out I2.out) (isT_keep W1'.out I3.out)))).mono ?_); rintro e w2 ⟨⟨r, rfl⟩, h⟩
  have W2 := Lib.hid (b_next W1'.out h); obtain ⟨p0, p1⟩ := p2_keep h P1'.out; clear h
  cases r with
  | true =>
    go_wp2_with fail
    go_ret
    exact ⟨retb rfl, W2.out⟩
  | false =>
    go_wp2_with fail
    (with_reducible refine (IN.out _ W2.out).mono ?_); rintro e w3 ⟨rfl, h⟩
    have W3 := Lib.hid (b_next W2.out h); replace p0 := keep h p0; replace p1 := keep h p1; clear h
    clear p0 p1
    rcases hE with ⟨e0, e1, e2⟩ | ⟨e0, e1, e2⟩
    · subst e0
      go_wp2_with fail
      go_ret
      exact ⟨retb rfl, W3.out⟩
    · clear e0
      go_wp2_with fail
      go_ret
      exact ⟨retb rfl, W3.out⟩
set_option maxRecDepth 100000 in
set_option maxHeartbeats 8000000 in
theorem bad2 (A A' A'' : Option Addr) (m m' m'' c c' c'' : Nat) (lat ver : Int) (E : Int) (w : World) (WK : Hid (∀ w1, Below w.heap.size w w1 → Calls Tryz.prog 9 #[] w1 fun e w' => e = .returned (.bool true) ∧ Below w1.heap.size w1 w')) (I1 : Hid (IsT w (.slice A m c))) (I2 : Hid (IsT w (.slice A' m' c'))) (I3 : Hid (IsT w (.slice A'' m'' c'')))
    (IN : Hid (∀ w1, Below w.heap.size w w1 → Calls Tryz.prog 11 #[.slice A m c, .slice A'' m'' c''] w1 fun e w' => e = .returned (.tuple #[.bool true, .int .i64 0]) ∧ Below w1.heap.size w1 w')) (P1 : Hid (∀ w1, Below w.heap.size w w1 → Calls Tryz.prog 12 #[.slice A m c, .slice A' m' c', .agg #[.int .i64 lat, .int .i64 ver]] w1 fun e w' => e = .returned (.tuple #[.slice none 0 0, .int .i64 E]) ∧ Below w1.heap.size w1 w')) (P2 : Hid (∀ w1, Below w.heap.size w w1 → Calls Tryz.prog 12 #[.slice A'' m'' c'', .slice A' m' c', .agg #[.int .i64 lat, .int .i64 ver]] w1 fun e w' => e = .returned (.tuple #[.slice none 0 0, .int .i64 E]) ∧ Below w1.heap.size w1 w')) (hE : E ≠ 0) :
    Calls Tryz.prog 3 #[.slice A m c, .slice A' m' c', .slice A'' m'' c'', .agg #[.int .i64 lat, .int .i64 ver]] w fun e w' => e = .returned (.bool true) ∧ Below w.heap.size w w' := by
  obtain ⟨e1, e2⟩ := ge1 hE; clear hE
  have HP := Lib.hid (p2_new w 25 lat ver)
  have HW := Lib.hid (b_alloc (Below.refl w.heap.size w) (.cells #[.int .i64 lat, .int .i64 ver] 25))
  go_enter Tryz.func3, Tryz.ntmps3
  go_wp2_with fail
  (with_reducible refine (WK.out _ HW.out).mono ?_); rintro e w1 ⟨rfl, h⟩
  have W1 := Lib.hid (b_next HW.out h); have P1w := Lib.hid (p2_keep h HP.out); clear h
  have Q1 := Lib.hid (q3_new w1 23 (.slice A m c) (.slice A' m' c') (.slice A'' m'' c''))
  have W1' := Lib.hid (b_alloc W1.out (.cells #[.slice A m c, .slice A' m' c', .slice A'' m'' c''] 23))
  have P1' := Lib.hid (p2_alloc (.cells #[.slice A m c, .slice A' m' c', .slice A'' m'' c''] 23) P1w.out)
  go_wp2_with fail
  (with_reducible refine (long_any _ 3 3 _ _ (Nat.le_refl _) (by decide) (Lib.hid (q3_ist Q1.out (isT_keep W1'.out I1.out) (isT_keep W1'.out I2.out) (isT_keep W1'.out I3.out)))).mono ?_); rintro e w2 ⟨⟨r, rfl⟩, h⟩
  have W2 := Lib.hid (b_next W1'.out h); obtain ⟨p0, p1⟩ := p2_keep h P1'.out; clear h
  cases r with
  | true =>
    go_wp2_with fail
    go_ret
    exact ⟨retb rfl, W2.out⟩
  | false =>
    go_wp2_with fail
    (with_reducible refine (IN.out _ W2.out).mono ?_); rintro e w3 ⟨rfl, h⟩
    have W3 := Lib.hid (b_next W2.out h); replace p0 := keep h p0; replace p1 := keep h p1; clear h
    go_wp2_with fail
    (with_reducible refine (P1.out _ W3.out).mono ?_); rintro e w4 ⟨rfl, h⟩
    have W4 := Lib.hid (b_next W3.out h); replace p0 := keep h p0; replace p1 := keep h p1; clear h
    go_wp2_with fail
    (with_reducible refine (P2.out _ W4.out).mono ?_); rintro e w5 ⟨rfl, h⟩
    have W5 := Lib.hid (b_next W4.out h); clear h p0 p1
    go_wp2_with fail
    all_goals
      go_ret
      exact ⟨by first | exact retb rfl | exact retb (by simp), W5.out⟩
abbrev PrC (u v : Value) (lat ver : Int) (M : Nat) (F : Nat → Nat → Int) (w : World) : Prop := ∀ w1, Below w.heap.size w w1 → Calls Tryz.prog 12 #[u, v, .agg #[.int .i64 lat, .int .i64 ver]] w1 fun e w' => (∃ q, e = .returned (.tuple #[q, .int .i64 0]) ∧ Own w' w1.heap.size 35 2 q M F) ∧ Below w1.heap.size w1 w'
/-- One of the first j intervals holds interval i. -/
def anyIn (F F' : Nat → Nat → Int) (i : Nat) : Nat → Bool
  | 0 => false
  | j + 1 => anyIn F F' i j || (decide (F' j 0 ≤ F i 0) && decide (F i 1 ≤ F' j 1))
theorem any_step {F F' : Nat → Nat → Int} {i j : Nat} {b c : Bool} (h : b = anyIn F F' i j) (e : c = (b || (decide (F' j 0 ≤ F i 0) && decide (F i 1 ≤ F' j 1)))) : c = anyIn F F' i (j + 1) := by rw [e, h]; rfl
theorem any_ex {F F' : Nat → Nat → Int} {i : Nat} : ∀ {k j : Nat}, j < k → F' j 0 ≤ F i 0 → F i 1 ≤ F' j 1 → anyIn F F' i k = true := by
  intro k
  induction k with
  | zero => intro j h; omega
  | succ k ih =>
    intro j h h1 h2
    show (anyIn F F' i k || (decide (F' k 0 ≤ F i 0) && decide (F i 1 ≤ F' k 1))) = true
    by_cases e : j = k
    · subst e; rw [decide_eq_true h1, decide_eq_true h2]; simp
    · rw [ih (show j < k by omega) h1 h2]; rfl
set_option maxRecDepth 100000 in
set_option maxHeartbeats 8000000 in
theorem body (A A' A'' : Option Addr) (m m' m'' c c' c'' : Nat) (lat ver : Int) (M M' : Nat) (F F' : Nat → Nat → Int) (w : World) (WK : Hid (∀ w1, Below w.heap.size w w1 → Calls Tryz.prog 9 #[] w1 fun e w' => e = .returned (.bool true) ∧ Below w1.heap.size w1 w')) (I1 : Hid (IsT w (.slice A m c))) (I2 : Hid (IsT w (.slice A' m' c'))) (I3 : Hid (IsT w (.slice A'' m'' c'')))
    (IN : Hid (∀ w1, Below w.heap.size w w1 → Calls Tryz.prog 11 #[.slice A m c, .slice A'' m'' c''] w1 fun e w' => e = .returned (.tuple #[.bool true, .int .i64 0]) ∧ Below w1.heap.size w1 w')) (P1 : Hid (PrC (.slice A m c) (.slice A' m' c') lat ver M F w)) (P2 : Hid (PrC (.slice A'' m'' c'') (.slice A' m' c') lat ver M' F' w))
    (hx : Hid (∀ i, i < M → anyIn F F' i M' = true)) :
    Calls Tryz.prog 3 #[.slice A m c, .slice A' m' c', .slice A'' m'' c'', .agg #[.int .i64 lat, .int .i64 ver]] w fun e w' => e = .returned (.bool true) ∧ Below w.heap.size w w' := by
  have HP := Lib.hid (p2_new w 25 lat ver)
  have HW := Lib.hid (b_alloc (Below.refl w.heap.size w) (.cells #[.int .i64 lat, .int .i64 ver] 25))
  go_enter Tryz.func3, Tryz.ntmps3
  go_wp2_with fail
  (with_reducible refine (WK.out _ HW.out).mono ?_); rintro e w1 ⟨rfl, h⟩
  have W1 := Lib.hid (b_next HW.out h); have P1w := Lib.hid (p2_keep h HP.out); clear h
  have Q1 := Lib.hid (q3_new w1 23 (.slice A m c) (.slice A' m' c') (.slice A'' m'' c''))
  have W1' := Lib.hid (b_alloc W1.out (.cells #[.slice A m c, .slice A' m' c', .slice A'' m'' c''] 23))
  have P1' := Lib.hid (p2_alloc (.cells #[.slice A m c, .slice A' m' c', .slice A'' m'' c''] 23) P1w.out)
  go_wp2_with fail
  (with_reducible refine (long_any _ 3 3 _ _ (Nat.le_refl _) (by decide) (Lib.hid (q3_ist Q1.out (isT_keep W1'.out I1.out) (isT_keep W1'.out I2.out) (isT_keep W1'.out I3.out)))).mono ?_); rintro e w2 ⟨⟨r, rfl⟩, h⟩
  have W2 := Lib.hid (b_next W1'.out h); obtain ⟨p0, p1⟩ := p2_keep h P1'.out; clear h
  cases r with
  | true =>
    go_wp2_with fail
    go_ret
    exact ⟨retb rfl, W2.out⟩
  | false =>
    go_wp2_with fail
    (with_reducible refine (IN.out _ W2.out).mono ?_); rintro e w3 ⟨rfl, h⟩
    have W3 := Lib.hid (b_next W2.out h); replace p0 := keep h p0; replace p1 := keep h p1; clear h
    go_wp2_with fail
    (with_reducible refine (P1.out _ W3.out).mono ?_); rintro e w4 ⟨⟨q1, rfl, o1⟩, h⟩
    have W4 := Lib.hid (b_next W3.out h); have O1 := Lib.hid o1; replace p0 := keep h p0; replace p1 := keep h p1; clear h o1
    go_wp2_with fail
    (with_reducible refine (P2.out _ W4.out).mono ?_); rintro e w5 ⟨⟨q2, rfl, o2⟩, h⟩
    have o1 := own_keep h O1.out
    have W5 := Lib.hid (b_next W4.out h); clear h p0 p1
    obtain ⟨A1, c1, rfl, k1, k1'⟩ := own_slice o1
    obtain ⟨A2, c2, rfl, k2, k2'⟩ := own_slice o2
    have k1'' : c1 ≤ 9223372036854775807 := Nat.le_trans k1' (by decide)
    have k2'' : c2 ≤ 9223372036854775807 := Nat.le_trans k2' (by decide)
    have O4 := Lib.hid o1; have O5 := Lib.hid o2; clear o1 o2 k1' k2'
    obtain ⟨wb, rfl⟩ : ∃ wb : World, wb = w5 := ⟨_, rfl⟩
    go_wp2_with fail
    go_loopw [66] (fun s wr => ∃ i : Nat, i ≤ M ∧ s = .int .i64 i ∧ Below wb.heap.size wb wr) (fun s _ => M - (intOf s).toNat)
    case atStart => exact ⟨0, Nat.zero_le _, rfl, Below.refl _ _⟩
    case round =>
      obtain ⟨i, hi, rfl, hbl⟩ := hrel
      have HB := Lib.hid hbl; clear hbl
      by_cases hlt : i < M
      · have hl : (i : Int) < (M : Int) := by omega
        obtain ⟨g1, cc1, he1, -, -, -, -, hr1⟩ := own_row O4.out (show 0 < M by omega)
        injection he1 with e1 _ e3
        subst e1 e3
        have r1 := keep HB.out (hr1.cell i hlt 0 (by omega)); have r2 := keep HB.out (hr1.cell i hlt 1 (by omega))
        rw [Nat.add_zero] at r1
        have HX := Lib.hid (hx.out i hlt)
        have PX := Lib.hid (p2_new wr 35 (F i 0) (F i 1)); have HB1 := Lib.hid (b_alloc HB.out (.cells #[.int .i64 (F i 0), .int .i64 (F i 1)] 35))
        go_wp2_with fail
        obtain ⟨wc, hwc⟩ : ∃ wc, wc = wr.alloc (.cells #[.int .i64 (F i 0), .int .i64 (F i 1)] 35) := ⟨_, rfl⟩
        rw [← hwc] at PX HB1 ⊢
        clear hwc r1 r2
        go_loopw [72, 17] (fun s q ws => ∃ (j : Nat) (bb : Bool), j ≤ M' ∧ s = .int .i64 j ∧ q = .bool bb ∧ bb = anyIn F F' i j ∧ Below wc.heap.size wc ws) (fun s _ _ => M' - (intOf s).toNat)
        case atStart => exact ⟨0, false, Nat.zero_le _, rfl, rfl, rfl, Below.refl _ _⟩
        case round =>
          obtain ⟨j, bb, hj, rfl, rfl, hbb, hbl⟩ := hrel
          have HC := Lib.hid hbl; have HBB := Lib.hid hbb; clear hbl hbb
          by_cases hlj : j < M'
          · have hlj' : (j : Int) < (M' : Int) := by omega
            obtain ⟨g2, cc2, he2, -, -, -, -, hr2⟩ := own_row O5.out (show 0 < M' by omega)
            injection he2 with e2 _ e4
            subst e2 e4
            have hbs := b_next HB1.out HC.out
            have r3 := keep hbs (hr2.cell j hlj 0 (by omega)); have r4 := keep hbs (hr2.cell j hlj 1 (by omega))
            rw [Nat.add_zero] at r3
            obtain ⟨x0, x1⟩ := p2_keep HC.out PX.out
            have n1 := new_ne x0
            have HC1 := Lib.hid (b_alloc HC.out (.cells #[.int .i64 (F' j 0), .int .i64 (F' j 1)] 35))
            clear hbs
            cases bb with
            | true =>
              go_wp2_with fail
              exact ⟨⟨j + 1, true, by omega, by go_num, rfl, any_step HBB.out (by simp), HC1.out⟩, by simp [intOf]; omega⟩
            | false =>
              by_cases d1 : F' j 0 ≤ F i 0
              · have f1 := decide_eq_true d1
                by_cases d2 : F i 1 ≤ F' j 1
                · have f2 := decide_eq_true d2
                  go_wp2_with fail
                  exact ⟨⟨j + 1, true, by omega, by go_num, rfl, any_step HBB.out (by rw [f1, f2]; rfl), HC1.out⟩, by simp [intOf]; omega⟩
                · have f2 := decide_eq_false d2
                  go_wp2_with fail
                  exact ⟨⟨j + 1, false, by omega, by go_num, rfl, any_step HBB.out (by rw [f1, f2]; rfl), HC1.out⟩, by simp [intOf]; omega⟩
              · have f1 := decide_eq_false d1
                go_wp2_with fail
                exact ⟨⟨j + 1, false, by omega, by go_num, rfl, any_step HBB.out (by rw [f1]; rfl), HC1.out⟩, by simp [intOf]; omega⟩
          · have hlj' : ¬ (j : Int) < (M' : Int) := by omega
            have hj' : j = M' := by omega
            have hbt : bb = true := by rw [HBB.out, hj']; exact HX.out
            subst hbt
            have HJ := Lib.hid hj'; clear hj'
            have HBE := Lib.hid (b_next HB1.out HC.out)
            go_wp2_with fail
            exact ⟨⟨i + 1, by omega, by go_num, HBE.out⟩, by simp [intOf]; omega⟩
      · have hl : ¬ (i : Int) < (M : Int) := by omega
        go_wp2_with fail
        go_ret
        exact ⟨retb rfl, b_next W5.out HB.out⟩
theorem two (E : Int) : (E = 0 ∧ (E == 0) = true ∧ (E != 0) = false) ∨ (E ≠ 0 ∧ (E == 0) = false ∧ (E != 0) = true) := by
  by_cases h : E = 0
  · exact Or.inl ⟨h, by simp [h], by simp [h]⟩
  · exact Or.inr ⟨h, by simp [h], by simp [h]⟩
theorem cf_in {T X Y H R B : Nat → Int} {n : Nat} {T' X' Y' H' R' B' : Nat → Int} {n' : Nat} {T'' X'' Y'' H'' R'' B'' : Nat → Int} {n'' : Nat} {lat ver t : Int} (hi : inT T X Y H R B n T'' X'' Y'' H'' R'' B'' n'' t = true) (h : cfT T X Y H R B n T' X' Y' H' R' B' n' lat ver t = true) : cfT T'' X'' Y'' H'' R'' B'' n'' T' X' Y' H' R' B' n' lat ver t = true := by
  unfold cfT at h ⊢
  rw [Bool.not_eq_true'] at h ⊢
  rcases Bool.eq_false_or_eq_true (sepB (tx T'' X'' (segI T'' n'' t) t) (tx T'' Y'' (segI T'' n'' t) t) (th T'' H'' (segI T'' n'' t) t) (tu T'' R'' (segI T'' n'' t) t) (tu T'' B'' (segI T'' n'' t) t) (tx T' X' (segI T' n' t) t) (tx T' Y' (segI T' n' t) t) (th T' H' (segI T' n' t) t) (tu T' R' (segI T' n' t) t) (tu T' B' (segI T' n' t) t) lat ver) with hs | hs
  · rw [sep_in hi hs] at h; cases h
  · exact hs
theorem walk (a b wide : Value) (lat ver : Int) (W : World) (hL : laidMetH Tryz.prog Door.laid W) (h_a : Frame.Okc W (.sl [.int, .int, .int, .int, .int, .int]) a) (h_b : Frame.Okc W (.sl [.int, .int, .int, .int, .int, .int]) b) (h_w : Frame.Okc W (.sl [.int, .int, .int, .int, .int, .int]) wide) (_h1 : -9223372036854775808 ≤ lat ∧ lat ≤ 9223372036854775807) (_h2 : -9223372036854775808 ≤ ver ∧ ver ≤ 9223372036854775807) :
    Calls Tryz.prog 3 #[a, b, wide, .agg #[.int .i64 lat, .int .i64 ver]] W fun e w' => e = .returned (.bool true) ∧ Below W.heap.size W w' := by
  have TB := Door.tabs_of hL
  have WK := fun w1 (hb : Below W.heap.size W w1) => Top.h05Works (Ang.tabs_keep hb TB)
  obtain ⟨n, T, X, Y, H, R, B, hu⟩ := tv_of h_a
  obtain ⟨n', T', X', Y', H', R', B', hv⟩ := tv_of h_b
  obtain ⟨n'', T'', X'', Y'', H'', R'', B'', hw⟩ := tv_of h_w
  have J1 := ist_of hu
  have J2 := ist_of hv
  have J3 := ist_of hw
  have hu' := hu; have hv' := hv; have hw' := hw
  obtain ⟨A, c, rfl, -, -⟩ := tv_slice hu
  obtain ⟨A', c', rfl, -, -⟩ := tv_slice hv
  obtain ⟨A'', c'', rfl, -, -⟩ := tv_slice hw
  by_cases hE : tck T X Y H R B n = 0
  · by_cases hE2 : tck T'' X'' Y'' H'' R'' B'' n'' = 0
    · have hp := (tck_zero n).1 hE
      have hp2 := (tck_zero n'').1 hE2
      have IN := fun w1 (hb : Below W.heap.size W w1) => insideC_ok (tv_keep hb hu') (tv_keep hb hw') hp hp2
      by_cases hI : InsP T X Y H R B n T'' X'' Y'' H'' R'' B'' n''
      · have IN2 : ∀ w1, Below W.heap.size W w1 → Calls Tryz.prog 11 #[.slice A n c, .slice A'' n'' c''] w1 fun e w' => e = .returned (.tuple #[.bool true, .int .i64 0]) ∧ Below w1.heap.size w1 w' := fun w1 hb => (IN w1 hb).mono fun e w' ⟨⟨q, he, hq⟩, hb'⟩ => ⟨by rw [he, hq.2 hI], hb'⟩
        by_cases hS : twoE lat ver 0 (tck T' X' Y' H' R' B' n') = 0
        · obtain ⟨z0, -, z2⟩ := twoE_zero hS
          have hp' := (tck_zero n').1 z2
          refine body A A' A'' n n' n'' c c' c'' lat ver _ _ _ _ W (Lib.hid WK) (Lib.hid J1) (Lib.hid J2) (Lib.hid J3) (Lib.hid IN2) (Lib.hid fun w1 hb => pairC_ok (tv_keep hb hu') (tv_keep hb hv') hp hp' z0) (Lib.hid fun w1 hb => pairC_ok (tv_keep hb hw') (tv_keep hb hv') hp2 hp' z0) (Lib.hid fun i hi => ?_)
          obtain ⟨j, hj, j1, j2⟩ := span_sub (cf' := cfT T'' X'' Y'' H'' R'' B'' n'' T' X' Y' H' R' B' n' lat ver) (a' := max (T'' 0) (T' 0)) (k' := (min (T'' (n'' - 1)) (T' (n' - 1)) + 1 - max (T'' 0) (T' 0)).toNat) (by have := hI.1; omega) (by have := hI.1; have := hI.2.1; have := (spanN_ok _ _ _).le i hi; omega) (fun t h1 h2 h => cf_in (hI.2.2 t (by omega) (by omega)) h) hi
          exact any_ex hj j1 j2
        · refine bad2 A A' A'' n n' n'' c c' c'' lat ver _ W (Lib.hid WK) (Lib.hid J1) (Lib.hid J2) (Lib.hid J3) (Lib.hid IN2) (Lib.hid fun w1 hb => ?_) (Lib.hid fun w1 hb => ?_) hS
          · have q := pairC_bad (lat := lat) (ver := ver) (tv_keep hb hu') (tv_keep hb hv') (by rw [hE]; exact hS)
            rw [hE] at q; exact q
          · have q := pairC_bad (lat := lat) (ver := ver) (tv_keep hb hw') (tv_keep hb hv') (by rw [hE2]; exact hS)
            rw [hE2] at q; exact q
      · refine bad A A' A'' n n' n'' c c' c'' lat ver 0 W (Lib.hid WK) (Lib.hid J1) (Lib.hid J2) (Lib.hid J3) (Lib.hid fun w1 hb => (IN w1 hb).mono fun e w' ⟨⟨q, he, hq⟩, hb'⟩ => ⟨?_, hb'⟩) (two 0)
        cases q with
        | true => exact absurd (hq.1 rfl) hI
        | false => exact he
    · exact bad A A' A'' n n' n'' c c' c'' lat ver _ W (Lib.hid WK) (Lib.hid J1) (Lib.hid J2) (Lib.hid J3) (Lib.hid fun w1 hb => insideC_bad (tv_keep hb hu') (tv_keep hb hw') hE2 (Or.inr ⟨hE, rfl⟩)) (two _)
  · exact bad A A' A'' n n' n'' c c' c'' lat ver _ W (Lib.hid WK) (Lib.hid J1) (Lib.hid J2) (Lib.hid J3) (Lib.hid fun w1 hb => insideC_bad (tv_keep hb hu') (tv_keep hb hw') hE (Or.inl rfl)) (two _)
-- FRAME --

set_option maxRecDepth 100000 in
theorem lifted (os : Os) (started : os.Started) (H : Type) (enc : TypeId × Value → H) :
    ReturnsInHanded {} Tryz.checked os 3 .any (fun w args => (Rows.topWideningSpec.pre enc Tryz.prog Tryz.f3 [] false w args ∧ laidMetH Tryz.prog Door.laid w) ∧ sizedMet enc Tryz.prog Tryz.f3 (OpenSpec.ofChange Rows.topWideningSpec) false w args) (Rows.topWideningSpec.post enc Tryz.prog Tryz.f3 false true false false) :=
  Frame.lifted_laid (C := Tryz.checked) 3 Tryz.f3 Tryz.own started (by kernel_rfl) Tryz.func3 Tryz.laidOut rfl (by kernel_rfl) 4 rfl Tryz.underlying4
      (fun ds h => by match ds, h with | [_, _, _, _], _ => rfl)
      (ChangeSpec.witness_at (enc := enc) (C := Tryz.checked) (os := os) (X := fun w _ => laidMetH Tryz.prog Door.laid w) false (Door.laidWorld os) #[.slice none 0 0, .slice none 0 0, .slice none 0 0, .agg #[.int .i64 0, .int .i64 0]] 8 rfl (by kernel_rfl) (by kernel_rfl) (by kernel_rfl) (by kernel_rfl) (by kernel_rfl) (Door.laidWorld_met os _))
      (fun W base args ds ps hval0 hA _ hL => by
        have hval : ∀ (j : Nat) t v, Tryz.f3.params[j]? = some t → args[j]? = some v → Value.okWide Tryz.prog W .any base t v := hval0
        have hA' : DataW.TrodAll enc Tryz.prog W 0 (fun _ => true) true Tryz.f3.params.toList args.toList ds ps := hA
        clear hval0 hA
        have hA := hA'
        clear hA'
        rw [Tryz.params3] at hA hval
        obtain ⟨v0, vs0, d0, ds0, p0, q0, ea, rfl, rfl, tr0, rest0⟩ := trodAll_cons hA
        obtain ⟨v1, vs1, d1, ds1, p1, q1, rfl, rfl, rfl, tr1, rest1⟩ := trodAll_cons rest0
        obtain ⟨v2, vs2, d2, ds2, p2, q2, rfl, rfl, rfl, tr2, rest2⟩ := trodAll_cons rest1
        obtain ⟨v3, vs3, d3, ds3, p3, q3, rfl, rfl, rfl, tr3, rest3⟩ := trodAll_cons rest2
        obtain ⟨rfl, rfl, rfl⟩ := trodAll_nil rest3
        obtain rfl : args = #[v0, v1, v2, v3] := by cases args; simp_all
        clear ea
        have sl_a : Frame.Okc W (.sl [.int, .int, .int, .int, .int, .int]) v0 := by obtain ⟨a, l, c, e⟩ := okWide_slice Tryz.underlying23 (hval 0 _ v0 rfl rfl); exact Frame.arg_cell (k := 8) (by kernel_rfl) (by have e2 : v0 = .slice a l c := e; rw [e2]; rfl) tr0
        have sl_b : Frame.Okc W (.sl [.int, .int, .int, .int, .int, .int]) v1 := by obtain ⟨a, l, c, e⟩ := okWide_slice Tryz.underlying23 (hval 1 _ v1 rfl rfl); exact Frame.arg_cell (k := 8) (by kernel_rfl) (by have e2 : v1 = .slice a l c := e; rw [e2]; rfl) tr1
        have sl_wide : Frame.Okc W (.sl [.int, .int, .int, .int, .int, .int]) v2 := by obtain ⟨a, l, c, e⟩ := okWide_slice Tryz.underlying23 (hval 2 _ v2 rfl rfl); exact Frame.arg_cell (k := 8) (by kernel_rfl) (by have e2 : v2 = .slice a l c := e; rw [e2]; rfl) tr2
        obtain ⟨cs_s, e_s, hl_s, hc_s⟩ := Frame.arg_agg Tryz.underlying25 (k := 8) (ks := [.int, .int]) (by kernel_rfl) (hval 3 _ v3 rfl rfl) tr3
        subst e_s
        obtain ⟨c_s_lat, c_s_vert, rfl⟩ : ∃ c_s_lat c_s_vert, cs_s = [c_s_lat, c_s_vert] := by match cs_s, hl_s with | [x0, x1], _ => exact ⟨x0, x1, rfl⟩
        have o_s_lat : Frame.Okc W (.int) c_s_lat := hc_s 0 (by decide) (by simp)
        obtain ⟨s_lat, e_s_lat, w_s_lat⟩ := o_s_lat.int_inv; subst e_s_lat
        have o_s_vert : Frame.Okc W (.int) c_s_vert := hc_s 1 (by decide) (by simp)
        obtain ⟨s_vert, e_s_vert, w_s_vert⟩ := o_s_vert.int_inv; subst e_s_vert
        exact walk v0 v1 v2 s_lat s_vert W hL sl_a sl_b sl_wide w_s_lat w_s_vert)

/-- The statement. -/
theorem row_holds : Rows.TopWideningSaid :=
  OpenClaim.holds_of_wide 3 Tryz.f3 rfl rfl rfl rfl rfl rfl rfl ⟨rfl, rfl, rfl, rfl, rfl⟩ rfl rfl rfl rfl rfl (by kernel_rfl) Tryz.func3 (by kernel_rfl)
    (of_decide_eq_true (by kernel_rfl)) (by unfold Func.isWrapper; first | (rw [if_pos (by decide +kernel)]; kernel_rfl) | (rw [if_neg (by decide +kernel)]; exact ⟨rfl, rfl⟩))
    (fun os started H enc _ => lifted os started H enc)
/-- The tied card. -/
theorem proved : Rows.TopWideningCardSaid :=
  Claim7.holds_tied_plain_at .later [] [.data, .data, .data] true (true, "5d56dae4b2a688e5e654a1984c708b89ba408b22c31bf1e299093b9bc00c5a55") true
    row_holds (fun _ h => by cases h) (by kernel_rfl) (fun _ h => by cases h) topWidening_row_tie rfl ⟨rfl, rfl⟩ (by kernel_rfl) rfl
    (fun f fn hf hfn => by
      obtain rfl : f = 3 := Option.some.inj ((show Tryz.prog.funcNamed "skyway/skywaytop.TopWidening" = some 3 by kernel_rfl).symm.trans hf) |>.symm
      obtain rfl : fn = Tryz.f3 := (Option.some.inj (Tryz.func3.symm.trans hfn)).symm
      exact ⟨by kernel_rfl, fun j t ht => by
        rw [Tryz.params3] at ht
        have hall : ∀ t ∈ [23, 23, 23, 25], Tryz.prog.wantsStandIn t = false := by
          intro t ht
          simp only [List.mem_cons, List.not_mem_nil, or_false] at ht
          rcases ht with rfl | rfl | rfl | rfl <;> kernel_rfl
        exact hall t (List.mem_iff_getElem?.2 ⟨j, by simpa using ht⟩)⟩)
    (by kernel_rfl)
#print axioms proved
end TopWidening
end Go.Proofs.YteieagihdflapaaGreatDoor

