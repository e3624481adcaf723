/- angle.Vector: what it returns; the direction and the length of what it returns (plain laws). -/
import Derived.Test.YtkapllakofndlaaDoorOfC
import Derived.Test.YtkapllakofndlaaDoorPlane
namespace Go.Proofs.YtkapllakofndlaaDoor
open Go.RowKit
namespace Ang
open Kit Plane
/-- angle.near at 16384. -/
def nr (n : Int) : Int := if n < 0 then -((-n + 8192) / 16384) else (n + 8192) / 16384
theorem nr_bd (n : Int) : -8192 ≤ 16384 * nr n - n ∧ 16384 * nr n - n ≤ 8192 := by unfold nr; split <;> omega
theorem near_pos (n : Int) (w : World) (h0 : 0 ≤ n) (h1 : n ≤ 40000000000) : Calls Tryd.prog 36 #[.int .i64 n, .int .i64 16384] w fun e w' => e = .returned (.int .i64 (nr n)) ∧ w = w' := by
  have e : nr n = (n + 8192) / 16384 := by unfold nr; rw [if_neg (by omega)]
  rw [e]
  have q : ¬ n < 0 := by omega
  go_enter Tryd.func36, Tryd.ntmps36
  go_wp2
  all_goals first | (exfalso; omega) | (go_ret; exact ⟨by first | rfl | exact ret1 (by omega), rfl⟩)
theorem near_w (n : Int) (w : World) (h0 : -40000000000 ≤ n) (h1 : n ≤ 40000000000) : Calls Tryd.prog 36 #[.int .i64 n, .int .i64 16384] w fun e w' => e = .returned (.int .i64 (nr n)) ∧ w = w' := by
  by_cases h : n < 0
  · have N := Lib.hid (near_pos (-n) w (by omega) (by omega))
    have e : nr n = - nr (-n) := by unfold nr; rw [if_pos h, if_neg (by omega)]
    have b := nr_bd (-n)
    rw [e]
    generalize nr (-n) = m at *
    go_enter Tryd.func36, Tryd.ntmps36
    go_wp2_with fail
    (with_reducible refine N.out.mono ?_); rintro e v ⟨rfl, rfl⟩
    go_wp2_with fail
    go_ret
    exact ⟨by first | rfl | exact ret1 (by omega), rfl⟩
  · exact near_pos n w (by omega) h1
set_option maxRecDepth 100000 in
set_option maxHeartbeats 1000000 in
theorem vector_w (h L s c P Q : Int) (w : World) (l0 : 0 ≤ L) (l1 : L ≤ 2000000) (S1 : Hid (∀ w1, Below w.heap.size w w1 → Calls Tryd.prog 14 #[.int .i64 h] w1 fun e w' => e = .returned (.int .i64 s) ∧ w1 = w')) (S2 : Hid (∀ w1, Below w.heap.size w w1 → Calls Tryd.prog 15 #[.int .i64 h] w1 fun e w' => e = .returned (.int .i64 c) ∧ w1 = w'))
    (e1 : L * s = P) (e2 : L * c = Q) (b1 : -40000000000 ≤ P ∧ P ≤ 40000000000) (b2 : -40000000000 ≤ Q ∧ Q ≤ 40000000000) :
    Calls Tryd.prog 19 #[.int .i64 h, .int .i64 L] w fun e w' => e = .returned (.tuple #[.agg #[.int .i64 (nr P), .int .i64 (nr Q)], .int .i64 0]) ∧ Below w.heap.size w w' := by
  have w2 := Lib.hid (b_alloc (Below.refl w.heap.size w) (.cells #[.int .i64 0, .int .i64 0] 28))
  have T1 := Lib.hid (S1.out _ w2.out)
  have T2 := Lib.hid (S2.out _ w2.out)
  have N1 : Hid (∀ w, Calls Tryd.prog 36 #[.int .i64 P, .int .i64 16384] w fun e w' => e = .returned (.int .i64 (nr P)) ∧ w = w') := Lib.hid fun w => near_w P w b1.1 b1.2
  have N2 : Hid (∀ w, Calls Tryd.prog 36 #[.int .i64 Q, .int .i64 16384] w fun e w' => e = .returned (.int .i64 (nr Q)) ∧ w = w') := Lib.hid fun w => near_w Q w b2.1 b2.2
  generalize nr P = p at *
  generalize nr Q = q at *
  have q1 : ¬ L < 0 := by omega
  have q2 : ¬ 2000000 < L := by omega
  go_enter Tryd.func19, Tryd.ntmps19
  go_wp2_with fail
  (with_reducible refine T1.out.mono ?_); rintro e v ⟨rfl, rfl⟩
  go_wp2_with fail
  (with_reducible refine (N1.out _).mono ?_); rintro e v ⟨rfl, rfl⟩
  go_wp2_with fail
  (with_reducible refine T2.out.mono ?_); rintro e v ⟨rfl, rfl⟩
  go_wp2_with fail
  (with_reducible refine (N2.out _).mono ?_); rintro e v ⟨rfl, rfl⟩
  go_wp2_with fail
  refine bodyPost_ret (v := .tuple #[.agg #[.int .i64 p, .int .i64 q], .int .i64 0]) (by simp [results, Tryd.results19, go_sem]) rfl ⟨rfl, ?_⟩
  first
    | exact b_alloc (Below.refl _ _) _
    | exact b_set (b_set (b_alloc (Below.refl _ _) _) (Nat.le_refl _) _) (Nat.le_refl _) _
theorem circ_all : (∀ n, n < 4096 → -22400 ≤ S n * S n + S ((n + 1024) % 4096) * S ((n + 1024) % 4096) - 268435456 ∧ S n * S n + S ((n + 1024) % 4096) * S ((n + 1024) % 4096) - 268435456 ≤ 22400) := by
  have key : ∀ k : Nat, (Nat.rec true (fun n r => decide (-22400 ≤ S n * S n + S ((n + 1024) % 4096) * S ((n + 1024) % 4096) - 268435456 ∧ S n * S n + S ((n + 1024) % 4096) * S ((n + 1024) % 4096) - 268435456 ≤ 22400) && r) k : Bool) = true → ∀ n, n < k → -22400 ≤ S n * S n + S ((n + 1024) % 4096) * S ((n + 1024) % 4096) - 268435456 ∧ S n * S n + S ((n + 1024) % 4096) * S ((n + 1024) % 4096) - 268435456 ≤ 22400 := by
    intro k
    induction k with
    | zero => intro _ n h; omega
    | succ k ih =>
      intro h n hn
      have h' : (decide (-22400 ≤ S k * S k + S ((k + 1024) % 4096) * S ((k + 1024) % 4096) - 268435456 ∧ S k * S k + S ((k + 1024) % 4096) * S ((k + 1024) % 4096) - 268435456 ≤ 22400) && (Nat.rec true (fun n r => decide (-22400 ≤ S n * S n + S ((n + 1024) % 4096) * S ((n + 1024) % 4096) - 268435456 ∧ S n * S n + S ((n + 1024) % 4096) * S ((n + 1024) % 4096) - 268435456 ≤ 22400) && r) k : Bool)) = true := h
      rw [Bool.and_eq_true, decide_eq_true_eq] at h'
      rcases Nat.lt_or_ge n k with hl | hl
      · exact ih h'.2 n hl
      · rw [show n = k from by omega]; exact h'.1
  exact key 4096 (by decide +kernel)
theorem circ_sn (h : Int) : -22400 ≤ sn h * sn h + sn (h + 1024) * sn (h + 1024) - 268435456 ∧ sn h * sn h + sn (h + 1024) * sn (h + 1024) - 268435456 ≤ 22400 := by
  have c := circ_all (h % 4096).toNat (by omega)
  unfold sn
  rw [show ((h + 1024) % 4096).toNat = ((h % 4096).toNat + 1024) % 4096 from by omega]
  exact c
theorem small_mul {a e : Int} (ha : -16384 ≤ a ∧ a ≤ 16384) (he : -8192 ≤ e ∧ e ≤ 8192) : -134217728 ≤ a * e ∧ a * e ≤ 134217728 := by
  have h1 : 0 ≤ (16384 - a) * (8192 + e) := Int.mul_nonneg (by omega) (by omega)
  have h2 : 0 ≤ (16384 + a) * (8192 - e) := Int.mul_nonneg (by omega) (by omega)
  have h3 : 0 ≤ (16384 - a) * (8192 - e) := Int.mul_nonneg (by omega) (by omega)
  have h4 : 0 ≤ (16384 + a) * (8192 + e) := Int.mul_nonneg (by omega) (by omega)
  have e1 : (16384 - a) * (8192 + e) = 134217728 + 16384 * e - 8192 * a - a * e := by grind
  have e2 : (16384 + a) * (8192 - e) = 134217728 - 16384 * e + 8192 * a - a * e := by grind
  have e3 : (16384 - a) * (8192 - e) = 134217728 - 16384 * e - 8192 * a + a * e := by grind
  have e4 : (16384 + a) * (8192 + e) = 134217728 + 16384 * e + 8192 * a + a * e := by grind
  omega
/-- The direction of what angle.Vector makes. -/
theorem back_dir {h L : Int} (l0 : 10000 ≤ L) : OfV (nr (L * sn h)) (nr (L * sn (h + 1024))) (h % 4096) ∧ ¬ (nr (L * sn h) = 0 ∧ nr (L * sn (h + 1024)) = 0) := by
  have x1 := nr_bd (L * sn h)
  have x2 := nr_bd (L * sn (h + 1024))
  generalize nr (L * sn h) = vx at *
  generalize nr (L * sn (h + 1024)) = vy at *
  have key : ∀ k : Int, ∃ t, 16384 * F vx vy k = L * (sn (k + 1024) * sn h - sn k * sn (h + 1024)) + t ∧ -268435456 ≤ t ∧ t ≤ 268435456 := fun k => by
    have m1 := small_mul (sn_bd (k + 1024)) x1
    have m2 := small_mul (sn_bd k) x2
    refine ⟨sn (k + 1024) * (16384 * vx - L * sn h) - sn k * (16384 * vy - L * sn (h + 1024)), ?_, by omega, by omega⟩
    unfold F; grind
  have f0 : -16384 ≤ F vx vy h ∧ F vx vy h ≤ 16384 := by
    obtain ⟨t, e, t1, t2⟩ := key h
    rw [show sn (h + 1024) * sn h - sn h * sn (h + 1024) = 0 from by grind, Int.mul_zero] at e
    omega
  have c1 := cu_near h 1
  have c2 := cu_near (h - 1) 1
  have s1 := sn_pos (k := 1) (by omega) (by omega)
  rw [show h - 1 + 1 = h from by omega] at c2
  have f1 : F vx vy (h + 1) < -16384 := by
    obtain ⟨t, e, t1, t2⟩ := key (h + 1)
    rw [show sn (h + 1 + 1024) * sn h - sn (h + 1) * sn (h + 1024) = -cu h (h + 1) from by unfold cu; grind, Int.mul_neg] at e
    have m := Int.mul_le_mul l0 (show 378200 ≤ cu h (h + 1) by omega) (by omega) (by omega)
    omega
  have f2 : 16384 < F vx vy (h - 1) := by
    obtain ⟨t, e, t1, t2⟩ := key (h - 1)
    rw [show sn (h - 1 + 1024) * sn h - sn (h - 1) * sn (h + 1024) = cu (h - 1) h from by unfold cu; grind] at e
    have m := Int.mul_le_mul l0 (show 378200 ≤ cu (h - 1) h by omega) (by omega) (by omega)
    omega
  refine ⟨?_, fun hz => ?_⟩
  · rcases (show 0 ≤ F vx vy h ∨ F vx vy h < 0 by omega) with hf | hf
    · refine ⟨h % 4096, by omega, by omega, (sec_mod (g := h % 4096) (h := h) (by omega)).2 ⟨hf, by omega⟩, ?_⟩
      rw [F_mod (g := h % 4096) (h := h) (by omega), F_mod (g := h % 4096 + 1) (h := h + 1) (by omega), if_pos (by omega)]
    · refine ⟨(h - 1) % 4096, by omega, by omega, (sec_mod (g := (h - 1) % 4096) (h := h - 1) (by omega)).2 ⟨by omega, by rw [show h - 1 + 1 = h from by omega]; exact hf⟩, ?_⟩
      rw [F_mod (g := (h - 1) % 4096) (h := h - 1) (by omega), F_mod (g := (h - 1) % 4096 + 1) (h := h) (by omega), if_neg (by omega)]
      omega
  · rw [hz.1, hz.2] at f1
    unfold F at f1
    rw [Int.mul_zero, Int.mul_zero] at f1
    omega
/-- The length of what angle.Vector makes. -/
theorem back_len {h L : Int} (l0 : 10000 ≤ L) (l1 : L ≤ 1009999) : (L - 2 - L / 16384) * (L - 2 - L / 16384) ≤ nr (L * sn h) * nr (L * sn h) + nr (L * sn (h + 1024)) * nr (L * sn (h + 1024)) ∧
    nr (L * sn h) * nr (L * sn h) + nr (L * sn (h + 1024)) * nr (L * sn (h + 1024)) ≤ (L + 2 + L / 16384) * (L + 2 + L / 16384) := by
  have x1 := nr_bd (L * sn h)
  have x2 := nr_bd (L * sn (h + 1024))
  have c := circ_sn h
  have b1 := sn_bd h; have b2 := sn_bd (h + 1024)
  generalize nr (L * sn h) = vx at *
  generalize nr (L * sn (h + 1024)) = vy at *
  generalize sn h = s at *
  generalize sn (h + 1024) = t at *
  obtain ⟨ex, hex⟩ : ∃ ex, ex = 16384 * vx - L * s := ⟨_, rfl⟩
  obtain ⟨ey, hey⟩ : ∃ ey, ey = 16384 * vy - L * t := ⟨_, rfl⟩
  rw [← hex] at x1
  rw [← hey] at x2
  have m1 := small_mul b1 x1
  have m2 := small_mul b2 x2
  obtain ⟨d, hd⟩ : ∃ d, d = s * s + t * t - 268435456 := ⟨_, rfl⟩
  rw [← hd] at c
  have e : 268435456 * (vx * vx + vy * vy) = L * L * 268435456 + L * L * d + 2 * (L * (s * ex + t * ey)) + (ex * ex + ey * ey) := by
    rw [hd, hex, hey]; grind
  have n1 := sq_nonneg ex; have n2 := sq_nonneg ey
  have p1 := small_mul (a := ex) (by omega) x1
  have p2 := small_mul (a := ey) (by omega) x2
  have g0 := sq_nonneg L
  have g1 := mul_le (a := L * L) (x := d) (y := 22400) g0 c.1 c.2
  have g2 := mul_le (a := L) (x := s * ex + t * ey) (y := 268435456) (by omega) (by omega) (by omega)
  obtain ⟨k, hk⟩ : ∃ k, k = L / 16384 := ⟨_, rfl⟩
  have hk1 : 0 ≤ k ∧ k ≤ 61 ∧ 16384 * k ≤ L ∧ L ≤ 16384 * k + 16383 := by omega
  rw [← hk]
  have g3 := Int.mul_le_mul_of_nonneg_left hk1.2.2.2 (show 0 ≤ L by omega)
  have g4 : L * (16384 * k + 16383) = 16384 * (L * k) + 16383 * L := by grind
  have g5 := Int.mul_le_mul_of_nonneg_left hk1.2.1 hk1.1
  have g6 : (L - 2 - k) * (L - 2 - k) = L * L - 4 * L - 2 * (L * k) + 4 + 4 * k + k * k := by grind
  have g7 : (L + 2 + k) * (L + 2 + k) = L * L + 4 * L + 2 * (L * k) + 4 + 4 * k + k * k := by grind
  have g8 : 0 ≤ L * k := Int.mul_nonneg (by omega) hk1.1
  have g9 := sq_nonneg k
  rw [g4] at g3
  rw [g6, g7]
  clear hd hex hey g4 g6 g7 hk
  generalize L * L * d = A at *
  generalize L * (s * ex + t * ey) = B at *
  generalize vx * vx + vy * vy = q at *
  generalize ex * ex = e1 at *
  generalize ey * ey = e2 at *
  generalize L * L = P at *
  generalize L * k = Q at *
  generalize k * k = K at *
  omega
end Ang
end Go.Proofs.YtkapllakofndlaaDoor
