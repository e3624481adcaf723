/- route.check, route.Length: what they return. -/
import Derived.Test.YteaccanhahmclaaChN
namespace Go.Proofs.Yteaccanhahmclaa
open Go.RowKit
namespace Route
open Kit Plane Chart
/-- What is wrong with fix k alone. -/
def ger (X Y : Nat → Int) (k : Nat) : Int := if goodB (X k) (Y k) = false then 4 else 0
/-- route.check's error. -/
def rck (n : Nat) (X Y : Nat → Int) : Int := if 64 < n then 2 else ferr (ger X Y) n
/-- The step to fix j. -/
def rstp (X Y : Nat → Int) (j : Nat) : Int := dup (sqr (X (j - 1)) (Y (j - 1)) (X j) (Y j))
theorem rck_ok {n : Nat} {X Y : Nat → Int} (h : rck n X Y = 0) : n ≤ 64 ∧ ∀ k, k < n → good (X k) (Y k) := by
  unfold rck at h
  split at h
  · cases h
  · refine ⟨by omega, fun k hk => ?_⟩
    have := ferr_inv h k hk
    unfold ger at this
    cases hg : goodB (X k) (Y k) with
    | false => rw [hg] at this; cases this
    | true => exact goodB_iff.1 hg
theorem rck_of {n : Nat} {X Y : Nat → Int} (h : n ≤ 64) (hg : ∀ k, k < n → good (X k) (Y k)) : rck n X Y = 0 := by
  unfold rck
  rw [if_neg (by omega)]
  exact ferr_zero fun k hk => by unfold ger; rw [goodB_iff.2 (hg k hk)]; rfl
set_option maxRecDepth 100000 in
set_option maxHeartbeats 4000000 in
theorem rcheck_w (A : Option Addr) (n c : Nat) (N : Nat → ByteArray) (X Y : Nat → Int) (w : World) (HV : Hid (FV w (.slice A n c) n N X Y)) :
    Calls Try.prog 110 #[.slice A n c] w fun e w' => e = .returned (.int .i64 (rck n X Y)) ∧ Below w.heap.size w w' := by
  by_cases h64 : 64 < n
  · have e : rck n X Y = 2 := by unfold rck; rw [if_pos h64]
    rw [e]
    have hI : (64 : Int) < (n : Int) := by omega
    clear e
    go_enter Try.func110, Try.ntmps110
    go_wp2_with fail
    all_goals first | (exfalso; omega) | (go_ret; exact ⟨rfl, Below.refl _ _⟩)
  · have hI : ¬ (64 : Int) < (n : Int) := by omega
    obtain ⟨R, hR⟩ : ∃ R, R = rck n X Y := ⟨_, rfl⟩
    rw [← hR]
    unfold rck at hR
    rw [if_neg h64] at hR
    have HR := Lib.hid hR; clear hR
    go_enter Try.func110, Try.ntmps110
    go_wp2_with fail
    all_goals try (exfalso; omega)
    go_loopw [11] (fun s wr => ∃ k : Nat, k ≤ n ∧ s = .int .i64 k ∧ (∀ j, j < k → ger X Y j = 0) ∧ Below w.heap.size w wr) (fun s _ => n - (intOf s).toNat)
    case atStart => exact ⟨0, Nat.zero_le _, rfl, fun j hj => absurd hj (Nat.not_lt_zero j), Below.refl _ _⟩
    case round =>
      obtain ⟨k, hk, rfl, hno, hbl⟩ := hrel
      have HN := Lib.hid hno; have WR := Lib.hid hbl; clear hno
      by_cases hlt : k < n
      · have hl : (k : Int) < (n : Int) := by omega
        obtain ⟨b, off, c', e, hc1, hc2, h3⟩ := fv_at (fv_keep hbl HV.out) (by omega)
        injection e with e1 _ e3
        subst e1 e3
        have hc3 : c ≤ 9223372036854775807 := Nat.le_trans hc2 (by decide)
        obtain ⟨f0, f1, f2⟩ := h3 k hlt
        have K := Lib.hid (chkF (X k) (Y k))
        have STOP : Hid (ger X Y k ≠ 0 → R = ger X Y k) := Lib.hid fun h => by rw [HR.out]; exact ferr_at HN.out h hlt
        have GO : Hid (ger X Y k = 0 → ∀ j, j < k + 1 → ger X Y j = 0) := Lib.hid fun h j hj => by
          rcases Nat.lt_or_ge j k with hl | hl
          · exact HN.out j hl
          · rw [show j = k from by omega]; exact h
        have HG : Hid (ger X Y k = if goodB (X k) (Y k) = false then 4 else 0) := Lib.hid rfl
        have WA := Lib.hid (b_alloc WR.out (.cells #[.string (N k), .int .i64 (X k), .int .i64 (Y k)] 45))
        clear hbl h3
        generalize X k = x at *
        generalize Y k = y at *
        cases hg : goodB x y with
        | false =>
          rw [hg] at HG K
          have e := STOP.out (by rw [HG.out]; decide)
          rw [HG.out, if_pos rfl] at e
          rw [if_pos rfl] at K
          have HE := Lib.hid e; clear e STOP GO hg
          go_wp2_with fail
          (with_reducible refine (K.out _).mono ?_); rintro e w1 ⟨rfl, hb⟩
          have W1 := Lib.hid (b_next WA.out hb); clear hb
          go_wp2_with fail
          go_ret
          exact ⟨by rw [HE.out]; rfl, W1.out⟩
        | true =>
          rw [hg] at HG K
          have e := GO.out (by rw [HG.out]; decide)
          rw [if_neg (by decide)] at K
          have HN' := Lib.hid e; clear e STOP GO hg
          go_wp2_with fail
          (with_reducible refine (K.out _).mono ?_); rintro e w1 ⟨rfl, hb⟩
          have W1 := Lib.hid (b_next WA.out hb); clear hb
          go_wp2_with fail
          go_roundw
          case rel => exact ⟨k + 1, by omega, by go_num, HN'.out, W1.out⟩
          case measure => simp [intOf]; omega
      · have hkn : k = n := by omega
        have e : R = 0 := by rw [HR.out]; exact ferr_zero fun j hj => HN.out j (by omega)
        have HE := Lib.hid e; clear e HN hbl
        go_wp2_with fail
        go_ret
        exact ⟨by rw [HE.out]; rfl, WR.out⟩
theorem rcheckC {v : Value} {n : Nat} {N : Nat → ByteArray} {X Y : Nat → Int} {w : World} (hv : FV w v n N X Y) : ∀ w1, Below w.heap.size w w1 →
    Calls Try.prog 110 #[v] w1 fun e w' => e = .returned (.int .i64 (rck n X Y)) ∧ Below w1.heap.size w1 w' := fun w1 hb => by
  obtain ⟨A, c, rfl⟩ := fv_slice hv
  exact rcheck_w A n c N X Y w1 (Lib.hid (fv_keep hb hv))
set_option maxRecDepth 100000 in
set_option maxHeartbeats 1000000 in
theorem rlen_bad (A : Option Addr) (n c : Nat) (E : Int) (w : World) (_hE1 : (E == 0) = false) (hE2 : (E != 0) = true) (C : Hid (∀ w1, Below w.heap.size w w1 → Calls Try.prog 110 #[.slice A n c] w1 fun e w' => e = .returned (.int .i64 E) ∧ Below w1.heap.size w1 w')) :
    Calls Try.prog 48 #[.slice A n c] w fun e w' => e = .returned (.tuple #[.int .i64 0, .int .i64 E]) ∧ Below w.heap.size w w' := by
  go_enter Try.func48, Try.ntmps48
  go_wp2_with fail
  (with_reducible refine (C.out _ (Below.refl _ _)).mono ?_); rintro e w1 ⟨rfl, hb⟩
  have W1 := Lib.hid hb; clear hb
  go_wp2_with fail
  go_ret2
  exact ⟨rfl, W1.out⟩
theorem rstp_bd {n : Nat} {X Y : Nat → Int} (hg : ∀ k, k < n → good (X k) (Y k)) {j : Nat} (hj : j < n) : 0 ≤ rstp X Y j ∧ rstp X Y j ≤ 3037000500 := by
  have g1 := hg (j - 1) (by omega)
  have g2 := hg j hj
  have h0 := sqr_nonneg (X (j - 1)) (Y (j - 1)) (X j) (Y j)
  have h1 := (dup_le h0 (sqr_near g1 g2)).1
  have h2 := (dup_spec h0).1
  unfold rstp
  omega
/-- The sum of the first steps. -/
theorem lsum_congr {D E : Nat → Int} : ∀ {k : Nat}, (∀ j, j < k → D j = E j) → lsum D k = lsum E k
  | 0, _ => rfl
  | k + 1, h => by
    show (if k = 0 then 0 else lsum D k + D k) = (if k = 0 then 0 else lsum E k + E k)
    rw [lsum_congr fun j hj => h j (by omega), h k (by omega)]
theorem lsum_bd' {n : Nat} {D : Nat → Int} (h : ∀ k, k < n → 0 ≤ D k ∧ D k ≤ 3037000500) : ∀ k, k ≤ n → 0 ≤ lsum D k ∧ lsum D k ≤ 3037000500 * k
  | 0, _ => by show (0 : Int) ≤ 0 ∧ (0 : Int) ≤ 3037000500 * 0; omega
  | k + 1, hk => by
    have h1 := lsum_bd' h k (by omega)
    have h2 := h k (by omega)
    show 0 ≤ (if k = 0 then 0 else lsum D k + D k) ∧ (if k = 0 then 0 else lsum D k + D k) ≤ _
    split <;> omega
set_option maxRecDepth 100000 in
set_option maxHeartbeats 4000000 in
theorem rlen_w (A : Option Addr) (n c : Nat) (N : Nat → ByteArray) (X Y : Nat → Int) (w : World) (hn : n ≤ 64) (HG : Hid (∀ k, k < n → good (X k) (Y k))) (HV : Hid (FV w (.slice A n c) n N X Y)) (C : Hid (∀ w1, Below w.heap.size w w1 → Calls Try.prog 110 #[.slice A n c] w1 fun e w' => e = .returned (.int .i64 0) ∧ Below w1.heap.size w1 w')) :
    Calls Try.prog 48 #[.slice A n c] w fun e w' => e = .returned (.tuple #[.int .i64 (lsum (rstp X Y) n), .int .i64 0]) ∧ Below w.heap.size w w' := by
  have HB := Lib.hid (lsum_bd' (n := n) (D := rstp X Y) (fun k hk => rstp_bd HG.out hk))
  go_enter Try.func48, Try.ntmps48
  go_wp2_with fail
  (with_reducible refine (C.out _ (Below.refl _ _)).mono ?_); rintro e w1 ⟨rfl, hb⟩
  have W1 := Lib.hid hb; clear hb
  go_wp2_with fail
  go_loopw [5, 6] (fun t s wr => ∃ k : Nat, 1 ≤ k ∧ (k ≤ n ∨ k = 1) ∧ s = .int .i64 k ∧ t = .int .i64 (lsum (rstp X Y) k) ∧ Below w1.heap.size w1 wr) (fun _ s _ => n - (intOf s).toNat)
  case atStart => exact ⟨1, Nat.le_refl _, Or.inr rfl, rfl, rfl, Below.refl _ _⟩
  case round =>
    obtain ⟨k, hk1, hk, rfl, rfl, hbl⟩ := hrel
    have WR := Lib.hid hbl
    by_cases hlt : k < n
    · have hl : (k : Int) < (n : Int) := by omega
      obtain ⟨b, off, c', e, hc1, hc2, h3⟩ := fv_at (fv_keep (b_next W1.out hbl) HV.out) (by omega)
      injection e with e1 _ e3
      subst e1 e3
      have hc3 : c ≤ 9223372036854775807 := Nat.le_trans hc2 (by decide)
      obtain ⟨P, hP⟩ : ∃ P, P = k - 1 := ⟨_, rfl⟩
      obtain ⟨-, f1, f2⟩ := h3 k hlt
      obtain ⟨-, g1, g2⟩ := h3 P (by omega)
      have C1 := Lib.hid (And.intro f1 f2); have C0 := Lib.hid (And.intro g1 g2)
      have gk := HG.out k hlt; have gp := HG.out P (by omega)
      have DS := Lib.hid (fun w' => distance (X P) (Y P) (X k) (Y k) w' rfl (by unfold good at *; omega))
      have est : rstp X Y k = dup (sqr (X P) (Y P) (X k) (Y k)) := by unfold rstp; rw [hP]
      have els : lsum (rstp X Y) (k + 1) = lsum (rstp X Y) k + rstp X Y k := by show (if k = 0 then 0 else lsum (rstp X Y) k + rstp X Y k) = _; rw [if_neg (by omega)]
      have bd := HB.out k (by omega)
      have bd2 := rstp_bd HG.out hlt
      rw [← est] at DS
      have HLS := Lib.hid els
      clear hbl h3 f1 f2 g1 g2 est els gk gp
      have u1 : IntKind.i64.wrap ((k : Int) - 1) = (P : Int) := by rw [IntWalk.i64_in _ (by omega)]; omega
      have bP : (P : Int) < (n : Int) := by omega
      clear hP
      generalize lsum (rstp X Y) k = L at *
      generalize rstp X Y k = st at *
      generalize root (sqr (X P) (Y P) (X k) (Y k)) = ro at *
      generalize X k = xk at *
      generalize Y k = yk at *
      generalize X P = xp at *
      generalize Y P = yp at *
      go_wp2_with fail
      refine d_region (by kernel_rfl) (by kernel_rfl) ?_
      repeat
        first
          | (refine d_plain (by with_reducible rfl) ?_; apply Exists.intro; refine ⟨fun wq hc hq => ?_, ?_⟩)
          | (refine d_on (by with_reducible rfl) (by rfl) (by with_reducible rfl) ?_; apply Exists.intro; refine ⟨fun wq hc hq => ?_, ?_⟩)
          | (refine d_off (by with_reducible rfl) (by rfl) (by rfl) ?_)
          | (refine d_void (by with_reducible rfl) (by rfl) ?_)
        try any_goals
          (have q0 := keep (cls hq) C0.out.1; have q1 := keep (cls hq) C0.out.2; have q2 := keep (cls hq) C1.out.1; have q3 := keep (cls hq) C1.out.2; clear hc
           go_simp
           first
             | rfl
             | (go_at_call 67; with_reducible exact call_below hq (DS.out _)))
        simp only [Act.put, List.setIfInBounds_toArray, List.set_cons_zero, List.set_cons_succ]
      refine d_nil ?_
      intro w4 hb4
      clear u1
      have W4 := Lib.hid (b_next WR.out hb4); clear hb4
      go_wp2_with fail
      go_roundw
      case rel => exact ⟨k + 1, by omega, by omega, by go_num, by rw [HLS.out], W4.out⟩
      case measure => simp [intOf]; omega
    · have hl : ¬ (k : Int) < (n : Int) := by omega
      have e : lsum (rstp X Y) k = lsum (rstp X Y) n := by
        rcases hk with h | h
        · rw [show k = n by omega]
        · subst h
          rcases (show n = 0 ∨ n = 1 by omega) with rfl | rfl <;> rfl
      have HE := Lib.hid e; clear e hbl
      go_wp2_with fail
      go_ret2
      exact ⟨by rw [← HE.out]; rfl, b_next W1.out WR.out⟩
/-- route.Length's answer. -/
def rlen (n : Nat) (X Y : Nat → Int) : Int × Int := if rck n X Y ≠ 0 then (0, rck n X Y) else (lsum (rstp X Y) n, 0)
theorem rlenC {v : Value} {n : Nat} {N : Nat → ByteArray} {X Y : Nat → Int} {w : World} (hv : FV w v n N X Y) : ∀ w1, Below w.heap.size w w1 →
    Calls Try.prog 48 #[v] w1 fun e w' => e = .returned (.tuple #[.int .i64 (rlen n X Y).1, .int .i64 (rlen n X Y).2]) ∧ Below w1.heap.size w1 w' := fun w1 hb => by
  have C := rcheckC (fv_keep hb hv)
  have hv1 := fv_keep hb hv
  obtain ⟨A, c, rfl⟩ := fv_slice hv
  unfold rlen
  by_cases hz : rck n X Y ≠ 0
  · rw [if_pos hz]
    exact rlen_bad A n c _ w1 (by simpa using hz) (by simpa using hz) (Lib.hid C)
  · rw [if_neg hz]
    have h0 := Classical.not_not.1 hz
    rw [h0] at C
    obtain ⟨g1, g2⟩ := rck_ok h0
    exact rlen_w A n c N X Y w1 g1 (Lib.hid g2) (Lib.hid hv1) (Lib.hid C)
end Route
end Go.Proofs.Yteaccanhahmclaa
