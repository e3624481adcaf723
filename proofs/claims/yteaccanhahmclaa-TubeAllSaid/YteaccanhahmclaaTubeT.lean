/- What tube.At returns, on every tube. -/
import Derived.Test.YteaccanhahmclaaTubeA
namespace Go.Proofs.Yteaccanhahmclaa
open Go.RowKit
namespace Tube
open Kit Plane
set_option maxHeartbeats 1000000 in
theorem At_bad (v : Value) (t : Int) (E : Int) (w : World) (C : Hid (CkC v E w)) (_hE1 : (E == 0) = false) (hE2 : (E != 0) = true) :
    Calls Try.prog 35 #[v, .int .i64 t] w fun e w' => e = .returned (.tuple #[.agg #[.int .i64 0, .int .i64 0, .int .i64 0, .int .i64 0, .int .i64 0, .int .i64 0], .int .i64 E]) ∧ Below w.heap.size w w' := by
  go_enter Try.func35, Try.ntmps35
  have HZ := Lib.hid (z6_new w 70 0 0 0 0 0 0)
  have HW := Lib.hid (b_alloc (Below.refl w.heap.size w) (.cells #[.int .i64 0, .int .i64 0, .int .i64 0, .int .i64 0, .int .i64 0, .int .i64 0] 70))
  go_wp2_with fail
  (with_reducible refine (C.out _ HW.out).mono ?_); rintro e w1 ⟨rfl, h⟩
  have hz := z6_keep h HZ.out; have hw := b_next HW.out h; clear h
  go_wp2_with fail

  have c := d6_set (0) (0) (0) (0) (0) (0) hz.1
  refine bodyPost_ret (v := .tuple #[.agg #[.int .i64 0, .int .i64 0, .int .i64 0, .int .i64 0, .int .i64 0, .int .i64 0], .int .i64 E]) (by simp [results, Try.results35, go_sem, c.1.1, c.1.2.1, c.1.2.2, c.2.1, c.2.2.1, c.2.2.2]) rfl ⟨rfl, b_set6' hw (Nat.le_refl _) _ _ _ _ _ _⟩
set_option maxHeartbeats 1000000 in
theorem At_time (v : Value) (t : Int) (a z : Int) (w : World) (C : Hid (CkC v 0 w)) (N : Hid (∀ w1, Below w.heap.size w w1 → Calls Try.prog 83 #[v] w1 fun e w' => e = .returned (.tuple #[.int .i64 a, .int .i64 z]) ∧ Below w1.heap.size w1 w')) (ht : t < a ∨ z < t) :
    Calls Try.prog 35 #[v, .int .i64 t] w fun e w' => e = .returned (.tuple #[.agg #[.int .i64 0, .int .i64 0, .int .i64 0, .int .i64 0, .int .i64 0, .int .i64 0], .int .i64 12]) ∧ Below w.heap.size w w' := by
  go_enter Try.func35, Try.ntmps35
  have HZ := Lib.hid (z6_new w 70 0 0 0 0 0 0)
  have HW := Lib.hid (b_alloc (Below.refl w.heap.size w) (.cells #[.int .i64 0, .int .i64 0, .int .i64 0, .int .i64 0, .int .i64 0, .int .i64 0] 70))
  go_wp2_with fail
  (with_reducible refine (C.out _ HW.out).mono ?_); rintro e w1 ⟨rfl, h⟩
  have hz := z6_keep h HZ.out; have hw := b_next HW.out h; clear h
  go_wp2_with fail
  (with_reducible refine (N.out _ hw).mono ?_); rintro e w2 ⟨rfl, h⟩
  replace hz := z6_keep h hz; replace hw := b_next hw h; clear h
  go_wp2_with fail

  all_goals first | (exfalso; omega) | skip
  all_goals
   have c := d6_set (0) (0) (0) (0) (0) (0) hz.1
   refine bodyPost_ret (v := .tuple #[.agg #[.int .i64 0, .int .i64 0, .int .i64 0, .int .i64 0, .int .i64 0, .int .i64 0], .int .i64 12]) (by simp [results, Try.results35, go_sem, c.1.1, c.1.2.1, c.1.2.2, c.2.1, c.2.2.1, c.2.2.2]) rfl ⟨rfl, b_set6' hw (Nat.le_refl _) _ _ _ _ _ _⟩
set_option maxHeartbeats 1000000 in
theorem At_ok (v : Value) (t : Int) (a z dx dy dh dr db : Int) (w : World) (C : Hid (CkC v 0 w)) (N : Hid (∀ w1, Below w.heap.size w w1 → Calls Try.prog 83 #[v] w1 fun e w' => e = .returned (.tuple #[.int .i64 a, .int .i64 z]) ∧ Below w1.heap.size w1 w')) (h1 : ¬ t < a) (h2 : ¬ z < t) (Q : Hid (∀ w1, Below w.heap.size w w1 → Calls Try.prog 84 #[v, .int .i64 t] w1 fun e w' => e = .returned (.agg #[.int .i64 t, .int .i64 dx, .int .i64 dy, .int .i64 dh, .int .i64 dr, .int .i64 db]) ∧ Below w1.heap.size w1 w')) :
    Calls Try.prog 35 #[v, .int .i64 t] w fun e w' => e = .returned (.tuple #[.agg #[.int .i64 t, .int .i64 dx, .int .i64 dy, .int .i64 dh, .int .i64 dr, .int .i64 db], .int .i64 0]) ∧ Below w.heap.size w w' := by
  go_enter Try.func35, Try.ntmps35
  have HZ := Lib.hid (z6_new w 70 0 0 0 0 0 0)
  have HW := Lib.hid (b_alloc (Below.refl w.heap.size w) (.cells #[.int .i64 0, .int .i64 0, .int .i64 0, .int .i64 0, .int .i64 0, .int .i64 0] 70))
  go_wp2_with fail
  (with_reducible refine (C.out _ HW.out).mono ?_); rintro e w1 ⟨rfl, h⟩
  have hz := z6_keep h HZ.out; have hw := b_next HW.out h; clear h
  go_wp2_with fail
  (with_reducible refine (N.out _ hw).mono ?_); rintro e w2 ⟨rfl, h⟩
  replace hz := z6_keep h hz; replace hw := b_next hw h; clear h
  go_wp2_with fail
  (with_reducible refine (Q.out _ hw).mono ?_); rintro e w3 ⟨rfl, h⟩
  replace hz := z6_keep h hz; replace hw := b_next hw h; clear h
  go_wp2_with fail

  have c := d6_set (t) (dx) (dy) (dh) (dr) (db) hz.1
  refine bodyPost_ret (v := .tuple #[.agg #[.int .i64 t, .int .i64 dx, .int .i64 dy, .int .i64 dh, .int .i64 dr, .int .i64 db], .int .i64 0]) (by simp [results, Try.results35, go_sem, c.1.1, c.1.2.1, c.1.2.2, c.2.1, c.2.2.1, c.2.2.2]) rfl ⟨rfl, b_set6' hw (Nat.le_refl _) _ _ _ _ _ _⟩
/-- The quotient, rounded up. -/
def up (a d : Int) : Int := -((-a) / d)
theorem du_up {a d : Int} (hd : 0 < d) : Num.du a d = up a d ∧ Num.dde a d = 0 := by
  have h0 : d ≠ 0 := by omega
  have h1 : ¬ (a = -9223372036854775808 ∧ d = -1) := by omega
  refine ⟨?_, (Num.dd_ok h0 h1).2⟩
  rw [Num.du_ok h0 h1, Num.fd_pos hd]
  unfold up
  have e1 := Int.mul_ediv_add_emod a d
  have e2 := Int.emod_nonneg a h0
  have e3 := Int.emod_lt_of_pos a hd
  have hz : a.tmod d = 0 ↔ a % d = 0 := by rw [← Int.dvd_iff_tmod_eq_zero, ← Int.dvd_iff_emod_eq_zero]
  by_cases hr : a % d = 0
  · rw [if_pos (hz.2 hr)]
    have : (-a) / d = -(a / d) := Num.ediv_unique hd (by rw [Int.mul_neg]; omega) (by rw [Int.mul_neg]; omega)
    omega
  · rw [if_neg (fun h => hr (hz.1 h))]
    have : (-a) / d = -(a / d + 1) := Num.ediv_unique hd (by rw [Int.mul_neg, Int.mul_add]; omega) (by rw [Int.mul_neg, Int.mul_add]; omega)
    omega
def tx (T X : Nat → Int) (i : Nat) (t : Int) : Int := tw (X i) (X (i + 1)) (t - T i) (T (i + 1) - T i)
def th (T H : Nat → Int) (i : Nat) (t : Int) : Int := H i + (H (i + 1) - H i) * (t - T i) / (T (i + 1) - T i)
def tu (T R : Nat → Int) (i : Nat) (t : Int) : Int := R i + up ((R (i + 1) - R i) * (t - T i)) (T (i + 1) - T i)
theorem tx_at {T X : Nat → Int} {i : Nat} : tx T X i (T i) = X i := by unfold tx; rw [Int.sub_self, tw_zero]
theorem th_at {T H : Nat → Int} {i : Nat} : th T H i (T i) = H i := by unfold th; rw [Int.sub_self, Int.mul_zero, Int.zero_ediv, Int.add_zero]
theorem tu_at {T R : Nat → Int} {i : Nat} : tu T R i (T i) = R i := by unfold tu up; rw [Int.sub_self, Int.mul_zero, Int.neg_zero, Int.zero_ediv]; omega
theorem quo_bd {d n N : Int} (hN : 0 < N) (h0 : 0 ≤ n) (h1 : n ≤ N) : (0 ≤ d * n / N ∨ d ≤ d * n / N) ∧ (d * n / N ≤ 0 ∨ d * n / N ≤ d) := by
  have e := tw_bd (a := 0) (b := d) hN h0 h1
  unfold tw at e
  rw [Int.sub_zero, Int.zero_add] at e
  exact e
theorem up_bd {d n N : Int} (hN : 0 < N) (h0 : 0 ≤ n) (h1 : n ≤ N) : (0 ≤ up (d * n) N ∨ d ≤ up (d * n) N) ∧ (up (d * n) N ≤ 0 ∨ up (d * n) N ≤ d) := by
  have e := quo_bd (d := -d) hN h0 h1
  unfold up
  rw [Int.neg_mul] at e
  omega
/-- Node i is the last one that is not later than t. -/
def tseg (T : Nat → Int) (n : Nat) (t : Int) (i : Nat) : Prop := i < n ∧ T i ≤ t ∧ (i + 1 < n → t < T (i + 1))
theorem tseg_ex {T : Nat → Int} {t : Int} : ∀ {n : Nat}, 0 < n → T 0 ≤ t → ∃ i, tseg T n t i := by
  intro n
  induction n with
  | zero => intro h; exact absurd h (by omega)
  | succ n ih =>
    intro _ h0
    rcases Nat.eq_zero_or_pos n with hn | hn
    · subst hn; exact ⟨0, by omega, h0, fun h => by omega⟩
    · by_cases hl : T n ≤ t
      · exact ⟨n, by omega, hl, fun h => by omega⟩
      · obtain ⟨i, h1, h2, h3⟩ := ih hn h0
        refine ⟨i, by omega, h2, fun h => ?_⟩
        rcases Nat.lt_or_ge (i + 1) n with h4 | h4
        · exact h3 h4
        · rw [show i + 1 = n from by omega]; omega
theorem mulb {x y M N : Int} (h : -M ≤ x ∧ x ≤ M) (k : -N ≤ y ∧ y ≤ N) : -(M * N) ≤ x * y ∧ x * y ≤ M * N := mul_bd h k
theorem atC {v : Value} {n : Nat} {T X Y H R B : Nat → Int} {w : World} (hv : TV w v n T X Y H R B) (hp : tok T X Y H R B n) {t : Int} {i : Nat} (hs : tseg T n t i) (hl : t ≤ T (n - 1)) :
    Calls Try.prog 84 #[v, .int .i64 t] w fun e w' => e = .returned (.agg #[.int .i64 t, .int .i64 (tx T X i t), .int .i64 (tx T Y i t), .int .i64 (th T H i t), .int .i64 (tu T R i t), .int .i64 (tu T B i t)]) ∧ Below w.heap.size w w' := by
  have hT : ∀ k, k < n → 0 ≤ T k ∧ T k ≤ 200000 := hp.time
  have hn := hp.small
  rcases hv with ⟨h0, -⟩ | ⟨h0, b, off, cap, rfl, h1, h2, h3⟩
  · have := hp.pos; omega
  · have hm := Nat.le_trans h2 (show maxLen ≤ 9223372036854775807 by decide)
    have ti := hT i hs.1
    have tn := hT (n - 1) (by omega)
    have hle := hs.2.1
    by_cases he : T i = t
    · subst he
      rw [tx_at, tx_at, th_at, tu_at, tu_at]
      refine at_exact n cap b off T X Y H R B (T i) i w hs.1 hn h1 hm (Lib.hid h3) (Lib.hid fun w1 hb => ?_)
      exact search_yes n cap b off T X Y H R B (T i) i w1 hs.1 hn h1 hm (Lib.hid fun k hk => s6_keep hb (h3 k hk)) (Lib.hid fun k hk => tok_lt hp hk hs.1) (Lib.hid fun k hk hkn => tok_le hp hk hkn) (Lib.hid hT) (by omega) rfl
    · have hin : i + 1 < n := by
        rcases Nat.lt_or_ge (i + 1) n with h | h
        · exact h
        · have : i = n - 1 := by have := hs.1; omega
          subst this; omega
      have hlt := hs.2.2 hin
      have ti1 := hT (i + 1) hin
      have q0 := hp.nums i hs.1; have q1 := hp.nums (i + 1) hin
      have g0 := hp.point i hs.1; have g1 := hp.point (i + 1) hin
      have hN : 0 < T (i + 1) - T i := by omega
      have d1 := quo_bd (d := H (i + 1) - H i) (n := t - T i) hN (by omega) (by omega)
      have d2 := up_bd (d := R (i + 1) - R i) (n := t - T i) hN (by omega) (by omega)
      have d3 := up_bd (d := B (i + 1) - B i) (n := t - T i) hN (by omega) (by omega)
      have m1 := mulb (x := H (i + 1) - H i) (y := t - T i) (M := 60000) (N := 200000) (by omega) (by omega)
      have m2 := mulb (x := R (i + 1) - R i) (y := t - T i) (M := 1000000) (N := 200000) (by omega) (by omega)
      have m3 := mulb (x := B (i + 1) - B i) (y := t - T i) (M := 60000) (N := 200000) (by omega) (by omega)
      have du : ∀ a : Int, -900000000000 ≤ a ∧ a ≤ 900000000000 → DvC 131 a (T (i + 1) - T i) (up a (T (i + 1) - T i)) := fun a ha w => by
        have c := Num.divUp a (T (i + 1) - T i) w (by omega) (by omega)
        rw [(du_up hN).1, (du_up hN).2] at c; exact c
      refine at_between n cap b off T X Y H R B t i w hin hn h1 hm (Lib.hid h3) (Lib.hid fun w1 hb => ?_) _ _ _ _ _ (Lib.hid fun w => toward_ok _ _ _ _ _ _ w hN (by omega) (by omega) (by omega) g0 g1)
        (Lib.hid (dv _ _ (by omega) (by omega))) (Lib.hid (du _ (by omega))) (Lib.hid (du _ (by omega))) (by omega) (by omega) (by omega) (by omega) (by omega) (by omega) (by omega)
      exact search_no n cap b off T X Y H R B t (i + 1) w1 hin hn h1 hm (Lib.hid fun k hk => s6_keep hb (h3 k hk)) (Lib.hid fun k hk => by have := tok_le hp (i := k) (j := i) (by omega) hs.1; omega) (Lib.hid fun k hk hkn => by have := tok_le hp (i := i + 1) (j := k) hk hkn; omega) (Lib.hid hT) (by omega) (by omega)
/-- tube.At's error. -/
def tatE (T X Y H R B : Nat → Int) (n : Nat) (t : Int) : Int := if tck T X Y H R B n ≠ 0 then tck T X Y H R B n else if t < T 0 ∨ T (n - 1) < t then 12 else 0
theorem tatE_zero {T X Y H R B : Nat → Int} {n : Nat} {t : Int} (h : tatE T X Y H R B n t = 0) : tok T X Y H R B n ∧ T 0 ≤ t ∧ t ≤ T (n - 1) ∧ ∃ i, tseg T n t i := by
  unfold tatE at h
  split at h
  · rename_i h1; exact absurd h h1
  · rename_i h1
    split at h
    · omega
    · have hp := (tck_zero n).1 (Classical.not_not.1 h1)
      exact ⟨hp, by omega, by omega, tseg_ex hp.pos (by omega)⟩
theorem endsC {v : Value} {n : Nat} {T X Y H R B : Nat → Int} {w : World} (hv : TV w v n T X Y H R B) (hp : tok T X Y H R B n) : ∀ w1, Below w.heap.size w w1 → Calls Try.prog 83 #[v] w1 fun e w' => e = .returned (.tuple #[.int .i64 (T 0), .int .i64 (T (n - 1))]) ∧ Below w1.heap.size w1 w' := fun w1 hb => by
  rcases tv_keep hb hv with ⟨h0, -⟩ | ⟨h0, b, off, cap, rfl, h1, h2, h3⟩
  · have := hp.pos; omega
  · exact ends_w n cap b off T X Y H R B w1 hp.pos hp.small h1 (Nat.le_trans h2 (by decide)) (Lib.hid h3)
theorem tAt_ok {v : Value} {n : Nat} {T X Y H R B : Nat → Int} {w : World} (hv : TV w v n T X Y H R B) {t : Int} {i : Nat} (h : tatE T X Y H R B n t = 0) (hs : tseg T n t i) :
    Calls Try.prog 35 #[v, .int .i64 t] w fun e w' => e = .returned (.tuple #[.agg #[.int .i64 t, .int .i64 (tx T X i t), .int .i64 (tx T Y i t), .int .i64 (th T H i t), .int .i64 (tu T R i t), .int .i64 (tu T B i t)], .int .i64 0]) ∧ Below w.heap.size w w' := by
  obtain ⟨hp, h0, h1, -⟩ := tatE_zero h
  have C := checkC hv
  rw [(tck_zero n).2 hp] at C
  exact At_ok v t _ _ _ _ _ _ _ w (Lib.hid C) (Lib.hid (endsC hv hp)) (by omega) (by omega) (Lib.hid fun w1 hb => atC (tv_keep hb hv) hp hs h1)
theorem tAt_bad {v : Value} {n : Nat} {T X Y H R B : Nat → Int} {w : World} (hv : TV w v n T X Y H R B) {t : Int} (h : tatE T X Y H R B n t ≠ 0) :
    Calls Try.prog 35 #[v, .int .i64 t] w fun e w' => e = .returned (.tuple #[.agg #[.int .i64 0, .int .i64 0, .int .i64 0, .int .i64 0, .int .i64 0, .int .i64 0], .int .i64 (tatE T X Y H R B n t)]) ∧ Below w.heap.size w w' := by
  have C := checkC hv
  unfold tatE at h ⊢
  by_cases hE : tck T X Y H R B n ≠ 0
  · rw [if_pos hE]
    exact At_bad v t _ w (Lib.hid C) (by simpa using hE) (by simpa using hE)
  · rw [if_neg hE] at h ⊢
    by_cases ht : t < T 0 ∨ T (n - 1) < t
    · rw [if_pos ht]
      have hE := Classical.not_not.1 hE
      rw [hE] at C
      exact At_time v t _ _ w (Lib.hid C) (Lib.hid (endsC hv ((tck_zero n).1 hE))) ht
    · rw [if_neg ht] at h; exact absurd rfl h
end Tube
end Go.Proofs.Yteaccanhahmclaa
