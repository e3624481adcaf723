/- ProbeHeights: tubes whose heights are far apart never clash. For every input. -/
import Derived.Test.YtampbjbalenckaaProbeM
import Derived.Test.YtampbjbalenckaaCutP
namespace Go.Proofs.Ytampbjbalenckaa
open Go.RowKit Go.ChangeShapes Go.WideShapes
namespace ProbeHeights
open Kit Plane Tube Probe
theorem q2_ist {w : World} {b : Nat} {u v : Value} (h : Q2 w b u v) (hu : IsT w u) (hv : IsT w v) : ∀ k, k < 2 → w.cell? ⟨b, k, none⟩ = some ((fun k => if k = 0 then u else v) k) ∧ IsT w ((fun k => if k = 0 then u else v) k) := by
  intro k hk
  rcases (show k = 0 ∨ k = 1 from by omega) with rfl | rfl
  · exact ⟨h.1, hu⟩
  · exact ⟨h.2, hv⟩
theorem ist_of {w : World} {v : Value} {n : Nat} {T X Y H R B : Nat → Int} (h : TV w v n T X Y H R B) : IsT w v := ⟨n, T, X, Y, H, R, B, h⟩
/-- The nodes of a tube in memory. -/
theorem tv_at {w : World} {A : Option Addr} {n cap : Nat} {T X Y H R B : Nat → Int} (h : TV w (.slice A n cap) n T X Y H R B) : ∀ k, k < n → ∃ b off, A = some ⟨b, off, none⟩ ∧ S6 w b (off + k * 6) (T k) (X k) (Y k) (H k) (R k) (B k) := by
  intro k hk
  rcases h with ⟨h, -⟩ | ⟨-, b, off, cap', he, -, -, h3⟩
  · omega
  · injection he with h4; exact ⟨b, off, h4, h3 k hk⟩
def lowN (H B : Nat → Int) : Nat → Int
  | 0 => 0
  | k + 1 => max (lowN H B k) (H k + B k)
def highN (H B : Nat → Int) : Nat → Int
  | 0 => 60000
  | k + 1 => min (highN H B k) (H k - B k)
theorem low_step (H B : Nat → Int) (k : Nat) : lowN H B (k + 1) = max (lowN H B k) (H k + B k) := rfl
theorem high_step (H B : Nat → Int) (k : Nat) : highN H B (k + 1) = min (highN H B k) (H k - B k) := rfl
theorem low_ge {H B : Nat → Int} : ∀ {n k : Nat}, k < n → H k + B k ≤ lowN H B n := by
  intro n
  induction n with
  | zero => intro k h; omega
  | succ n ih =>
    intro k h
    rw [low_step]
    by_cases e : k = n
    · subst e; omega
    · have := ih (show k < n by omega); omega
theorem high_le {H B : Nat → Int} : ∀ {n k : Nat}, k < n → highN H B n ≤ H k - B k := by
  intro n
  induction n with
  | zero => intro k h; omega
  | succ n ih =>
    intro k h
    rw [high_step]
    by_cases e : k = n
    · subst e; omega
    · have := ih (show k < n by omega); omega
set_option maxRecDepth 100000 in
set_option maxHeartbeats 4000000 in
theorem bad (A A' : Option Addr) (n n' c c' : Nat) (T X Y H R B T' X' Y' H' R' B' : Nat → Int) (lat ver E : Int) (w : World) (hc : n ≤ c ∧ c ≤ 9223372036854775807 ∧ n' ≤ c' ∧ c' ≤ 9223372036854775807) (I1 : Hid (IsT w (.slice A n c))) (I2 : Hid (IsT w (.slice A' n' c')))
    (V1 : Hid (TV w (.slice A n c) n T X Y H R B)) (V2 : Hid (TV w (.slice A' n' c') n' T' X' Y' H' R' B'))
    (PC : Hid (∀ w1, Below w.heap.size w w1 → Calls Try.prog 38 #[.slice A n c, .slice A' n' c', .agg #[.int .i64 lat, .int .i64 ver]] w1 fun e w' => e = .returned (.tuple #[.slice none 0 0, .int .i64 E]) ∧ Below w1.heap.size w1 w')) (hE : E ≠ 0) :
    Calls Try.prog 13 #[.slice A n c, .slice A' n' c', .agg #[.int .i64 lat, .int .i64 ver]] w fun e w' => e = .returned (.bool true) ∧ Below w.heap.size w w' := by
  obtain ⟨e1, e2⟩ := ge1 hE; clear hE
  have HP := Lib.hid (p2_new w 70 lat ver)
  have HW := Lib.hid (b_alloc (Below.refl w.heap.size w) (.cells #[.int .i64 lat, .int .i64 ver] 70))
  go_enter Try.func13, Try.ntmps13
  go_wp2_with fail
  (with_reducible refine (probeWorks _).mono ?_); rintro e w1 ⟨rfl, h⟩
  have W1 := Lib.hid (b_next HW.out h); have P1w := Lib.hid (p2_keep h HP.out); clear h
  have Q1 := Lib.hid (q2_new w1 45 (.slice A n c) (.slice A' n' c'))
  have W1' := Lib.hid (b_alloc W1.out (.cells #[.slice A n c, .slice A' n' c'] 45))
  have P1' := Lib.hid (p2_alloc (.cells #[.slice A n c, .slice A' n' c'] 45) P1w.out)
  go_wp2_with fail
  (with_reducible refine (long_any _ 2 2 _ _ (Nat.le_refl _) (by decide) (Lib.hid (q2_ist Q1.out (isT_keep W1'.out I1.out) (isT_keep W1'.out I2.out)))).mono ?_); rintro e w2 ⟨⟨r, rfl⟩, h⟩
  have W2 := Lib.hid (b_next W1'.out h); obtain ⟨p0, p1⟩ := p2_keep h P1'.out; clear h
  cases r with
  | true =>
    go_wp2_with fail
    go_ret
    exact ⟨retb rfl, W2.out⟩
  | false =>
    have PP2 := Lib.hid (And.intro p0 p1); clear p0 p1
    go_wp2_with fail
    go_loopw [23, 7] (fun s q wr => ∃ (k : Nat) (x : Int), k ≤ n ∧ s = .int .i64 k ∧ q = .int .i64 x ∧ P2 wr w.heap.size lat ver ∧ Below w.heap.size w wr) (fun s _ _ => n - (intOf s).toNat)
    case atStart => exact ⟨0, 0, Nat.zero_le _, rfl, rfl, PP2.out, W2.out⟩
    case round =>
      obtain ⟨k, x, hk, rfl, rfl, hp, hbl⟩ := hrel
      have HP1 := Lib.hid hp; have HB := Lib.hid hbl; clear hp hbl
      by_cases hlt : k < n
      · have hl : (k : Int) < (n : Int) := by omega
        obtain ⟨b, off, rfl, s6⟩ := tv_at (tv_keep HB.out V1.out) k hlt
        have O1 := Lib.hid (p2_alloc (.cells #[.int .i64 (T k), .int .i64 (X k), .int .i64 (Y k), .int .i64 (H k), .int .i64 (R k), .int .i64 (B k)] 47) HP1.out); have B1 := Lib.hid (b_alloc HB.out (.cells #[.int .i64 (T k), .int .i64 (X k), .int .i64 (Y k), .int .i64 (H k), .int .i64 (R k), .int .i64 (B k)] 47))
        go_wp2_with fail
        all_goals exact ⟨⟨k + 1, _, by omega, by go_num, rfl, O1.out, B1.out⟩, by simp [intOf]; omega⟩
      · have hl : ¬ (k : Int) < (n : Int) := by omega
        go_wp2_with fail
        go_loopw [38, 8] (fun s q wr => ∃ (k : Nat) (x : Int), k ≤ n' ∧ s = .int .i64 k ∧ q = .int .i64 x ∧ P2 wr w.heap.size lat ver ∧ Below w.heap.size w wr) (fun s _ _ => n' - (intOf s).toNat)
        case atStart => exact ⟨0, 60000, Nat.zero_le _, rfl, rfl, HP1.out, HB.out⟩
        case round =>
          obtain ⟨k, x', hk, rfl, rfl, hp, hbl⟩ := hrel
          have HP2 := Lib.hid hp; have HB2 := Lib.hid hbl; clear hp hbl
          by_cases hlt : k < n'
          · have hl : (k : Int) < (n' : Int) := by omega
            obtain ⟨b, off, rfl, s6⟩ := tv_at (tv_keep HB2.out V2.out) k hlt
            have O1 := Lib.hid (p2_alloc (.cells #[.int .i64 (T' k), .int .i64 (X' k), .int .i64 (Y' k), .int .i64 (H' k), .int .i64 (R' k), .int .i64 (B' k)] 47) HP2.out); have B1 := Lib.hid (b_alloc HB2.out (.cells #[.int .i64 (T' k), .int .i64 (X' k), .int .i64 (Y' k), .int .i64 (H' k), .int .i64 (R' k), .int .i64 (B' k)] 47))
            go_wp2_with fail
            all_goals exact ⟨⟨k + 1, _, by omega, by go_num, rfl, O1.out, B1.out⟩, by simp [intOf]; omega⟩
          · have hl : ¬ (k : Int) < (n' : Int) := by omega
            obtain ⟨p0, p1⟩ := HP2.out
            go_wp2_with fail
            (with_reducible refine (PC.out _ HB2.out).mono ?_); rintro e w3 ⟨rfl, h⟩
            have W3 := Lib.hid (b_next HB2.out h); clear h p0 p1
            go_wp2_with fail
            go_ret
            exact ⟨retb rfl, W3.out⟩
set_option maxRecDepth 100000 in
set_option maxHeartbeats 4000000 in
theorem body (A A' : Option Addr) (n n' c c' M : Nat) (F : Nat → Nat → Int) (T X Y H R B T' X' Y' H' R' B' : Nat → Int) (lat ver : Int) (w : World) (hc : n ≤ c ∧ c ≤ 9223372036854775807 ∧ n' ≤ c' ∧ c' ≤ 9223372036854775807) (I1 : Hid (IsT w (.slice A n c))) (I2 : Hid (IsT w (.slice A' n' c')))
    (V1 : Hid (TV w (.slice A n c) n T X Y H R B)) (V2 : Hid (TV w (.slice A' n' c') n' T' X' Y' H' R' B')) (N1 : Hid (∀ k, k < n → (0 ≤ H k ∧ H k ≤ 60000) ∧ (0 ≤ B k ∧ B k ≤ 60000))) (N2 : Hid (∀ k, k < n' → (0 ≤ H' k ∧ H' k ≤ 60000) ∧ (0 ≤ B' k ∧ B' k ≤ 60000)))
    (PC : Hid (∀ w1, Below w.heap.size w w1 → Calls Try.prog 38 #[.slice A n c, .slice A' n' c', .agg #[.int .i64 lat, .int .i64 ver]] w1 fun e w' => (∃ q, e = .returned (.tuple #[q, .int .i64 0]) ∧ Own w' w1.heap.size 109 2 q M F) ∧ Below w1.heap.size w1 w'))
    (hx : Hid (highN H' B' n' - lowN H B n - 1 < ver ∨ M = 0)) :
    Calls Try.prog 13 #[.slice A n c, .slice A' n' c', .agg #[.int .i64 lat, .int .i64 ver]] w fun e w' => e = .returned (.bool true) ∧ Below w.heap.size w w' := by
  have HP := Lib.hid (p2_new w 70 lat ver)
  have HW := Lib.hid (b_alloc (Below.refl w.heap.size w) (.cells #[.int .i64 lat, .int .i64 ver] 70))
  go_enter Try.func13, Try.ntmps13
  go_wp2_with fail
  (with_reducible refine (probeWorks _).mono ?_); rintro e w1 ⟨rfl, h⟩
  have W1 := Lib.hid (b_next HW.out h); have P1w := Lib.hid (p2_keep h HP.out); clear h
  have Q1 := Lib.hid (q2_new w1 45 (.slice A n c) (.slice A' n' c'))
  have W1' := Lib.hid (b_alloc W1.out (.cells #[.slice A n c, .slice A' n' c'] 45))
  have P1' := Lib.hid (p2_alloc (.cells #[.slice A n c, .slice A' n' c'] 45) P1w.out)
  go_wp2_with fail
  (with_reducible refine (long_any _ 2 2 _ _ (Nat.le_refl _) (by decide) (Lib.hid (q2_ist Q1.out (isT_keep W1'.out I1.out) (isT_keep W1'.out I2.out)))).mono ?_); rintro e w2 ⟨⟨r, rfl⟩, h⟩
  have W2 := Lib.hid (b_next W1'.out h); obtain ⟨p0, p1⟩ := p2_keep h P1'.out; clear h
  cases r with
  | true =>
    go_wp2_with fail
    go_ret
    exact ⟨retb rfl, W2.out⟩
  | false =>
    have PP2 := Lib.hid (And.intro p0 p1); clear p0 p1
    go_wp2_with fail
    go_loopw [23, 7] (fun s q wr => ∃ (k : Nat) (x : Int), k ≤ n ∧ s = .int .i64 k ∧ q = .int .i64 x ∧ x = lowN H B k ∧ 0 ≤ x ∧ x ≤ 120000 ∧ P2 wr w.heap.size lat ver ∧ Below w.heap.size w wr) (fun s _ _ => n - (intOf s).toNat)
    case atStart => exact ⟨0, 0, Nat.zero_le _, rfl, rfl, rfl, by omega, by omega, PP2.out, W2.out⟩
    case round =>
      obtain ⟨k, x, hk, rfl, rfl, hxl, x0, x1, hp, hbl⟩ := hrel
      have HP1 := Lib.hid hp; have HB := Lib.hid hbl; have HXL := Lib.hid hxl; clear hp hbl hxl
      by_cases hlt : k < n
      · have hl : (k : Int) < (n : Int) := by omega
        have nb := N1.out k hlt
        have HS := Lib.hid (low_step H B k)
        rw [← HXL.out] at HS
        obtain ⟨b, off, rfl, s6⟩ := tv_at (tv_keep HB.out V1.out) k hlt
        have O1 := Lib.hid (p2_alloc (.cells #[.int .i64 (T k), .int .i64 (X k), .int .i64 (Y k), .int .i64 (H k), .int .i64 (R k), .int .i64 (B k)] 47) HP1.out); have B1 := Lib.hid (b_alloc HB.out (.cells #[.int .i64 (T k), .int .i64 (X k), .int .i64 (Y k), .int .i64 (H k), .int .i64 (R k), .int .i64 (B k)] 47))
        go_wp2_with fail
        all_goals exact ⟨⟨k + 1, _, by omega, by go_num, rfl, by rw [HS.out]; omega, by omega, by omega, O1.out, B1.out⟩, by simp [intOf]; omega⟩
      · have hl : ¬ (k : Int) < (n : Int) := by omega
        have hkn : k = n := by omega
        rw [hkn] at HXL
        clear hkn
        go_wp2_with fail
        go_loopw [38, 8] (fun s q wr => ∃ (k : Nat) (y : Int), k ≤ n' ∧ s = .int .i64 k ∧ q = .int .i64 y ∧ y = highN H' B' k ∧ -60000 ≤ y ∧ y ≤ 60000 ∧ P2 wr w.heap.size lat ver ∧ Below w.heap.size w wr) (fun s _ _ => n' - (intOf s).toNat)
        case atStart => exact ⟨0, 60000, Nat.zero_le _, rfl, rfl, rfl, by omega, by omega, HP1.out, HB.out⟩
        case round =>
          obtain ⟨k, y, hk, rfl, rfl, hyl, y0, y1, hp, hbl⟩ := hrel
          have HP2 := Lib.hid hp; have HB2 := Lib.hid hbl; have HYL := Lib.hid hyl; clear hp hbl hyl
          by_cases hlt : k < n'
          · have hl : (k : Int) < (n' : Int) := by omega
            have nb := N2.out k hlt
            have HS := Lib.hid (high_step H' B' k)
            rw [← HYL.out] at HS
            obtain ⟨b, off, rfl, s6⟩ := tv_at (tv_keep HB2.out V2.out) k hlt
            have O1 := Lib.hid (p2_alloc (.cells #[.int .i64 (T' k), .int .i64 (X' k), .int .i64 (Y' k), .int .i64 (H' k), .int .i64 (R' k), .int .i64 (B' k)] 47) HP2.out); have B1 := Lib.hid (b_alloc HB2.out (.cells #[.int .i64 (T' k), .int .i64 (X' k), .int .i64 (Y' k), .int .i64 (H' k), .int .i64 (R' k), .int .i64 (B' k)] 47))
            go_wp2_with fail
            all_goals exact ⟨⟨k + 1, _, by omega, by go_num, rfl, by rw [HS.out]; omega, by omega, by omega, O1.out, B1.out⟩, by simp [intOf]; omega⟩
          · have hl : ¬ (k : Int) < (n' : Int) := by omega
            have hkn : k = n' := by omega
            rw [hkn] at HYL
            clear hkn
            obtain ⟨p0, p1⟩ := HP2.out
            go_wp2_with fail
            (with_reducible refine (PC.out _ HB2.out).mono ?_); rintro e w3 ⟨⟨q, rfl, ho⟩, h⟩
            have W3 := Lib.hid (b_next HB2.out h); replace p0 := keep h p0; replace p1 := keep h p1; clear h
            obtain ⟨A1, c1, rfl, -, -⟩ := own_slice ho
            clear ho
            have hxx := hx.out
            rw [← HXL.out, ← HYL.out] at hxx
            rcases hxx with h1 | h1
            · have f1 := decide_eq_true h1
              go_wp2_with fail
              go_ret
              exact ⟨retb rfl, W3.out⟩
            · subst h1
              go_wp2_with fail
              all_goals
                go_ret
                exact ⟨retb rfl, W3.out⟩
theorem mix_le {p q n D L : Int} (h0 : 0 ≤ n) (h1 : n ≤ D) (hp : p ≤ L) (hq : q ≤ L) : D * p + (q - p) * n ≤ D * L := by
  have e1 := Int.mul_le_mul_of_nonneg_right hp (show 0 ≤ D - n by omega)
  have e2 := Int.mul_le_mul_of_nonneg_right hq h0
  have i1 : p * (D - n) = D * p - p * n := by rw [Int.mul_sub, Int.mul_comm]
  have i2 : L * (D - n) = D * L - L * n := by rw [Int.mul_sub, Int.mul_comm]
  have i3 : (q - p) * n = q * n - p * n := Int.sub_mul ..
  omega
theorem up_at (x : Int) {d : Int} (hd : 0 < d) : x ≤ d * up x d ∧ d * up x d < x + d := by
  have h := fl (-x) hd
  unfold up
  rw [Int.mul_neg]
  omega
section
variable {T X Y H R B : Nat → Int} {n : Nat}
theorem low_at (_hp : tok T X Y H R B n) {L t : Int} {i : Nat} (hs : tseg T n t i) (hl : t ≤ T (n - 1)) (h : ∀ k, k < n → H k + B k ≤ L) : th T H i t + tu T B i t ≤ L := by
  by_cases he : T i = t
  · subst he; rw [th_at, tu_at]; exact h i hs.1
  · have hle := hs.2.1
    have hin : i + 1 < n := by
      rcases Nat.lt_or_ge (i + 1) n with h | h
      · exact h
      · have e : i = n - 1 := by have := hs.1; omega
        rw [e] at he hle; omega
    have hlt := hs.2.2 hin
    have h1 := h i hs.1
    have h2 := h (i + 1) hin
    have hD : 0 < T (i + 1) - T i := by omega
    unfold th tu
    have f := fl ((H (i + 1) - H i) * (t - T i)) hD
    have g := up_at ((B (i + 1) - B i) * (t - T i)) hD
    have m := mix_le (p := H i + B i) (q := H (i + 1) + B (i + 1)) (n := t - T i) (D := T (i + 1) - T i) (L := L) (by omega) (by omega) h1 h2
    have e : (H (i + 1) + B (i + 1) - (H i + B i)) * (t - T i) = (H (i + 1) - H i) * (t - T i) + (B (i + 1) - B i) * (t - T i) := by
      rw [← Int.add_mul]; congr 1; omega
    rw [e] at m
    generalize (H (i + 1) - H i) * (t - T i) = p1 at *
    generalize (B (i + 1) - B i) * (t - T i) = p2 at *
    generalize T (i + 1) - T i = D at *
    generalize p1 / D = a at *
    generalize up p2 D = b at *
    have k : D * (H i + a + (B i + b)) < D * (L + 1) := by
      have e1 : D * (H i + a + (B i + b)) = D * (H i + B i) + D * a + D * b := by
        simp only [Int.mul_add]; omega
      have e2 : D * (L + 1) = D * L + D := by rw [Int.mul_add, Int.mul_one]
      omega
    have := Int.lt_of_mul_lt_mul_left k (Int.le_of_lt hD)
    omega
theorem high_at (_hp : tok T X Y H R B n) {L t : Int} {i : Nat} (hs : tseg T n t i) (hl : t ≤ T (n - 1)) (h : ∀ k, k < n → L ≤ H k - B k) : L - 1 ≤ th T H i t - tu T B i t := by
  by_cases he : T i = t
  · subst he; rw [th_at, tu_at]; have := h i hs.1; omega
  · have hle := hs.2.1
    have hin : i + 1 < n := by
      rcases Nat.lt_or_ge (i + 1) n with h | h
      · exact h
      · have e : i = n - 1 := by have := hs.1; omega
        rw [e] at he hle; omega
    have hlt := hs.2.2 hin
    have h1 := h i hs.1
    have h2 := h (i + 1) hin
    have hD : 0 < T (i + 1) - T i := by omega
    unfold th tu
    have f := fl ((H (i + 1) - H i) * (t - T i)) hD
    have g := up_at ((B (i + 1) - B i) * (t - T i)) hD
    have m := mix_le (p := -(H i - B i)) (q := -(H (i + 1) - B (i + 1))) (n := t - T i) (D := T (i + 1) - T i) (L := -L) (by omega) (by omega) (by omega) (by omega)
    have e : (-(H (i + 1) - B (i + 1)) - -(H i - B i)) * (t - T i) = -((H (i + 1) - H i) * (t - T i)) + (B (i + 1) - B i) * (t - T i) := by
      rw [← Int.neg_mul, ← Int.add_mul]; congr 1; omega
    rw [e, Int.mul_neg, Int.mul_neg] at m
    generalize (H (i + 1) - H i) * (t - T i) = p1 at *
    generalize (B (i + 1) - B i) * (t - T i) = p2 at *
    generalize T (i + 1) - T i = D at *
    generalize p1 / D = a at *
    generalize up p2 D = b at *
    have k : D * (L - 2) < D * (H i + a - (B i + b)) := by
      have e1 : D * (H i + a - (B i + b)) = D * (H i - B i) + D * a - D * b := by
        simp only [Int.mul_add, Int.mul_sub]; omega
      have e2 : D * (L - 2) = D * L - D * 2 := Int.mul_sub ..
      omega
    have := Int.lt_of_mul_lt_mul_left k (Int.le_of_lt hD)
    omega
end
theorem walk (a : Value) (b : Value) (s_lat : Int) (s_vert : Int) (W : World) (h_a : Frame.Okc W (.sl [.int, .int, .int, .int, .int, .int]) a) (h_b : Frame.Okc W (.sl [.int, .int, .int, .int, .int, .int]) b) (_h_s_lat : -9223372036854775808 ≤ s_lat ∧ s_lat ≤ 9223372036854775807) (_h_s_vert : -9223372036854775808 ≤ s_vert ∧ s_vert ≤ 9223372036854775807) :
    Calls Try.prog 13 #[a, b, .agg #[.int .i64 s_lat, .int .i64 s_vert]] W fun e w' => e = .returned (.bool true) ∧ Below W.heap.size W w' := by
  obtain ⟨n, T, X, Y, H, R, B, hu⟩ := tv_of h_a
  obtain ⟨n', T', X', Y', H', R', B', hv⟩ := tv_of h_b
  have J1 := ist_of hu
  have J2 := ist_of hv
  by_cases hE : twoE s_lat s_vert (tck T X Y H R B n) (tck T' X' Y' H' R' B' n') = 0
  · obtain ⟨z0, z1, z2⟩ := twoE_zero hE
    have hp := (tck_zero n).1 z1
    have hp' := (tck_zero n').1 z2
    have PC := fun (w1 : World) (hb : Below W.heap.size W w1) => pairC_ok (tv_keep hb hu) (tv_keep hb hv) hp hp' z0
    obtain ⟨A, c, rfl, hc1, hc2⟩ := tv_slice hu
    obtain ⟨A', c', rfl, hc3, hc4⟩ := tv_slice hv
    refine body A A' n n' c c' _ _ T X Y H R B T' X' Y' H' R' B' s_lat s_vert W ⟨hc1, Nat.le_trans hc2 (by decide), hc3, Nat.le_trans hc4 (by decide)⟩ (Lib.hid J1) (Lib.hid J2) (Lib.hid hu) (Lib.hid hv) (Lib.hid fun k hk => ⟨(hp.nums k hk).1, (hp.nums k hk).2.2⟩) (Lib.hid fun k hk => ⟨(hp'.nums k hk).1, (hp'.nums k hk).2.2⟩) (Lib.hid PC) (Lib.hid ?_)
    by_cases hq : highN H' B' n' - lowN H B n - 1 < s_vert
    · exact Or.inl hq
    · refine Or.inr (span_none fun t h1 h2 => ?_)
      have l := low_at hp (segI_spec hp.pos (show T 0 ≤ t by omega)) (show t ≤ T (n - 1) by omega) (fun k hk => low_ge hk)
      have g := high_at hp' (segI_spec hp'.pos (show T' 0 ≤ t by omega)) (show t ≤ T' (n' - 1) by omega) (fun k hk => high_le hk)
      unfold cfT sepB
      rw [decide_eq_true (p := s_vert ≤ _) (by omega)]
      simp
  · have PC := fun (w1 : World) (hb : Below W.heap.size W w1) => pairC_bad (tv_keep hb hu) (tv_keep hb hv) hE
    obtain ⟨A, c, rfl, hc1, hc2⟩ := tv_slice hu
    obtain ⟨A', c', rfl, hc3, hc4⟩ := tv_slice hv
    exact bad A A' n n' c c' T X Y H R B T' X' Y' H' R' B' s_lat s_vert _ W ⟨hc1, Nat.le_trans hc2 (by decide), hc3, Nat.le_trans hc4 (by decide)⟩ (Lib.hid J1) (Lib.hid J2) (Lib.hid hu) (Lib.hid hv) (Lib.hid PC) hE
-- FRAME --

set_option maxRecDepth 100000 in
theorem lifted (os : Os) (started : os.Started) (H : Type) (enc : TypeId × Value → H) :
    ReturnsInHanded {} Try.checked os 13 .any (Rows.probeHeightsSpec.pre6 enc Try.prog Try.f13 Rows.probeHeightsRow.domain false) (Rows.probeHeightsSpec.post enc Try.prog Try.f13 false true false false) :=
  Frame.lifted (C := Try.checked) 13 Try.f13 Try.own started (by kernel_rfl) Try.func13 Try.laidOut rfl (by kernel_rfl) 4 rfl Try.underlying4
      (fun ds h => by match ds, h with | [_, _, _], _ => rfl)
      (ChangeSpec.witness6 (enc := enc) (C := Try.checked) false ⟨#[], #[.slice none 0 0, .slice none 0 0, .agg #[.int .i64 0, .int .i64 0]], []⟩ 8 (by kernel_rfl) (by kernel_rfl) (by kernel_rfl) (by kernel_rfl))
      (fun W base args ds ps hval0 hA _ => by
        have hval : ∀ (j : Nat) t v, Try.f13.params[j]? = some t → args[j]? = some v → Value.okWide Try.prog W .any base t v := hval0
        have hA' : DataW.TrodAll enc Try.prog W 0 (fun _ => true) true Try.f13.params.toList args.toList ds ps := hA
        clear hval0 hA
        have hA := hA'
        clear hA'
        rw [Try.params13] at hA hval
        obtain ⟨v0, vs0, d0, ds0, p0, q0, ea, rfl, rfl, tr0, rest0⟩ := trodAll_cons hA
        obtain ⟨v1, vs1, d1, ds1, p1, q1, rfl, rfl, rfl, tr1, rest1⟩ := trodAll_cons rest0
        obtain ⟨v2, vs2, d2, ds2, p2, q2, rfl, rfl, rfl, tr2, rest2⟩ := trodAll_cons rest1
        obtain ⟨rfl, rfl, rfl⟩ := trodAll_nil rest2
        obtain rfl : args = #[v0, v1, v2] := by cases args; simp_all
        clear ea
        have sl_a : Frame.Okc W (.sl [.int, .int, .int, .int, .int, .int]) v0 := by obtain ⟨a, l, c, e⟩ := okWide_slice Try.underlying45 (hval 0 _ v0 rfl rfl); exact Frame.arg_cell (k := 8) (by kernel_rfl) (by have e2 : v0 = .slice a l c := e; rw [e2]; rfl) tr0
        have sl_b : Frame.Okc W (.sl [.int, .int, .int, .int, .int, .int]) v1 := by obtain ⟨a, l, c, e⟩ := okWide_slice Try.underlying45 (hval 1 _ v1 rfl rfl); exact Frame.arg_cell (k := 8) (by kernel_rfl) (by have e2 : v1 = .slice a l c := e; rw [e2]; rfl) tr1
        obtain ⟨cs_s, e_s, hl_s, hc_s⟩ := Frame.arg_agg Try.underlying70 (k := 8) (ks := [.int, .int]) (by kernel_rfl) (hval 2 _ v2 rfl rfl) tr2
        subst e_s
        obtain ⟨c_s_lat, c_s_vert, rfl⟩ : ∃ c_s_lat c_s_vert, cs_s = [c_s_lat, c_s_vert] := by match cs_s, hl_s with | [x0, x1], _ => exact ⟨x0, x1, rfl⟩
        have o_s_lat : Frame.Okc W (.int) c_s_lat := hc_s 0 (by decide) (by simp)
        obtain ⟨s_lat, e_s_lat, w_s_lat⟩ := o_s_lat.int_inv; subst e_s_lat
        have o_s_vert : Frame.Okc W (.int) c_s_vert := hc_s 1 (by decide) (by simp)
        obtain ⟨s_vert, e_s_vert, w_s_vert⟩ := o_s_vert.int_inv; subst e_s_vert
        exact walk v0 v1 s_lat s_vert W sl_a sl_b w_s_lat w_s_vert)

/-- The statement. -/
theorem proved : Rows.ProbeHeightsSaid :=
  OpenClaim.holds_of_wide 13 Try.f13 rfl rfl rfl rfl rfl rfl rfl ⟨rfl, rfl, rfl, rfl, rfl⟩ rfl rfl rfl rfl rfl (by kernel_rfl) Try.func13 (by kernel_rfl)
    (of_decide_eq_true (by kernel_rfl)) (by unfold Func.isWrapper; first | (rw [if_pos (by decide +kernel)]; kernel_rfl) | (rw [if_neg (by decide +kernel)]; exact ⟨rfl, rfl⟩))
    (fun os started H enc _ => lifted os started H enc)
#print axioms proved
end ProbeHeights
end Go.Proofs.Ytampbjbalenckaa

