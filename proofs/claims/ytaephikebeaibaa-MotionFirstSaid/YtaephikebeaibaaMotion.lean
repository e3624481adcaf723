/- What the functions of package motion return: each walked once. -/
import Derived.Test.YtaephikebeaibaaToward
import Derived.Test.YtaephikebeaibaaMotionP
namespace Go.Proofs.Ytaephikebeaibaa
open Go.RowKit
namespace Motion
open Kit Plane
set_option maxHeartbeats 600000 in
theorem checkC (t0 t1 ax ay bx by' : Int) (w : World) :
    Calls Try.prog 39 #[.agg #[.int .i64 t0, .int .i64 t1, .int .i64 ax, .int .i64 ay, .int .i64 bx, .int .i64 by']] w fun e w' => e = .returned (.int .i64 (mchk t0 t1 ax ay bx by')) ∧ Below w.heap.size w w' := by
  by_cases h1 : 0 ≤ t0
  · by_cases h2 : t1 ≤ 200000
    · by_cases h3 : t0 < t1
      · by_cases ga : good ax ay
        · have C1 : Hid (Chk ax ay 0) := fun w => by have c := check ax ay w; rw [chk_ok ga] at c; exact c
          have C2 : Hid (Chk bx by' (chk bx by')) := fun w => check bx by' w
          have he : mchk t0 t1 ax ay bx by' = chk bx by' := by
            unfold mchk; rw [if_neg (fun e => e ⟨h1, h2, h3⟩), if_neg (fun e => e ga)]
            by_cases gb : good bx by'
            · rw [if_neg (fun e => e gb), chk_ok gb]
            · rw [if_pos gb, chk_bad gb]
          have HE := Lib.hid he
          clear he ga
          go_enter Try.func39, Try.ntmps39
          go_wp2_with fail
          refine (C1.out _).mono ?_; rintro e w1 ⟨rfl, hb⟩
          have hw := b_next (b_alloc (Below.refl _ w) _) hb
          have hm := m6_keep hb (m6_new w _ t0 t1 ax ay bx by')
          clear hb
          go_wp2_with fail
          refine (C2.out _).mono ?_; rintro e w1 ⟨rfl, hb⟩
          go_wp2_with fail
          go_ret
          exact ⟨ret1 HE.out.symm, b_next hw hb⟩
        · have C1 : Hid (Chk ax ay 4) := fun w => by have c := check ax ay w; rw [chk_bad ga] at c; exact c
          have HE : Hid (mchk t0 t1 ax ay bx by' = 4) := by
            show mchk t0 t1 ax ay bx by' = 4
            unfold mchk; rw [if_neg (fun e => e ⟨h1, h2, h3⟩), if_pos ga]
          clear ga
          go_enter Try.func39, Try.ntmps39
          go_wp2_with fail
          refine (C1.out _).mono ?_; rintro e w1 ⟨rfl, hb⟩
          go_wp2_with fail
          go_ret
          exact ⟨ret1 HE.out.symm, b_next (b_alloc (Below.refl _ w) _) hb⟩
      · have HE : Hid (mchk t0 t1 ax ay bx by' = 12) := if_pos (fun e => h3 e.2.2)
        go_enter Try.func39, Try.ntmps39
        go_wp2_with fail
        go_ret
        exact ⟨ret1 HE.out.symm, b_alloc (Below.refl _ w) _⟩
    · have HE : Hid (mchk t0 t1 ax ay bx by' = 12) := if_pos (fun e => h2 e.2.1)
      go_enter Try.func39, Try.ntmps39
      go_wp2_with fail
      go_ret
      exact ⟨ret1 HE.out.symm, b_alloc (Below.refl _ w) _⟩
  · have HE : Hid (mchk t0 t1 ax ay bx by' = 12) := if_pos (fun e => h1 e.1)
    go_enter Try.func39, Try.ntmps39
    go_wp2_with fail
    go_ret
    exact ⟨ret1 HE.out.symm, b_alloc (Below.refl _ w) _⟩
abbrev MC (t0 t1 ax ay bx by' r : Int) : Prop := ∀ w : World, Calls Try.prog 39 #[.agg #[.int .i64 t0, .int .i64 t1, .int .i64 ax, .int .i64 ay, .int .i64 bx, .int .i64 by']] w fun e w' => e = .returned (.int .i64 r) ∧ Below w.heap.size w w'
theorem mc_ok {t0 t1 ax ay bx by' : Int} (h : mok t0 t1 ax ay bx by') : MC t0 t1 ax ay bx by' 0 := fun w => by have c := checkC t0 t1 ax ay bx by' w; rw [mchk_ok h] at c; exact c
abbrev AT (t0 t1 ax ay bx by' t px py r : Int) : Prop := ∀ w : World, Calls Try.prog 40 #[.agg #[.int .i64 t0, .int .i64 t1, .int .i64 ax, .int .i64 ay, .int .i64 bx, .int .i64 by'], .int .i64 t] w fun e w' => e = .returned (.tuple #[.agg #[.int .i64 px, .int .i64 py], .int .i64 r]) ∧ Below w.heap.size w w'
set_option maxHeartbeats 600000 in
theorem at_bad {t0 t1 ax ay bx by' : Int} (t : Int) (h : ¬ mok t0 t1 ax ay bx by') : AT t0 t1 ax ay bx by' t 0 0 (mchk t0 t1 ax ay bx by') := fun w => by
  obtain ⟨hE, hE'⟩ := ne_bool (mchk_bad h)
  have C1 : Hid (MC t0 t1 ax ay bx by' (mchk t0 t1 ax ay bx by')) := fun w => checkC t0 t1 ax ay bx by' w
  clear h
  generalize mchk t0 t1 ax ay bx by' = E at *
  go_enter Try.func40, Try.ntmps40
  go_wp2_with fail
  refine (C1.out _).mono ?_; rintro e w1 ⟨rfl, hb⟩
  have hw := b_next (b_alloc (b_alloc (Below.refl _ w) _) _) hb
  have pr := b2_keep hb (b2_new1 w _ _ 0 0)
  clear hb
  go_wp2_with fail
  have hr := b2_set1 0 (b2_set0 0 pr)
  refine bodyPost_ret (v := .tuple #[.agg #[.int .i64 0, .int .i64 0], .int .i64 E]) ?_ rfl ⟨rfl, b_set (b_set hw (by simp) _) (by simp) _⟩
  simp [results, Try.results40, go_sem, hr.1.1, hr.1.2]
set_option maxHeartbeats 600000 in
theorem at_time {t0 t1 ax ay bx by' t : Int} (h : mok t0 t1 ax ay bx by') (ht : t < t0 ∨ t1 < t) : AT t0 t1 ax ay bx by' t 0 0 12 := fun w => by
  have C1 : Hid (MC t0 t1 ax ay bx by' 0) := mc_ok h
  clear h
  by_cases h1 : t < t0
  · clear ht
    go_enter Try.func40, Try.ntmps40
    go_wp2_with fail
    refine (C1.out _).mono ?_; rintro e w1 ⟨rfl, hb⟩
    have hw := b_next (b_alloc (b_alloc (Below.refl _ w) _) _) hb
    have hm := m6_keep hb (m6_alloc (.cells #[.int .i64 0, .int .i64 0] 23) (m6_new w _ t0 t1 ax ay bx by'))
    have pr := b2_keep hb (b2_new1 w _ _ 0 0)
    clear hb
    go_wp2_with fail
    have hr := b2_set1 0 (b2_set0 0 pr)
    refine bodyPost_ret (v := .tuple #[.agg #[.int .i64 0, .int .i64 0], .int .i64 12]) ?_ rfl ⟨rfl, b_set (b_set hw (by simp) _) (by simp) _⟩
    simp [results, Try.results40, go_sem, hr.1.1, hr.1.2]
  · have h2 : t1 < t := by omega
    clear ht
    go_enter Try.func40, Try.ntmps40
    go_wp2_with fail
    refine (C1.out _).mono ?_; rintro e w1 ⟨rfl, hb⟩
    have hw := b_next (b_alloc (b_alloc (Below.refl _ w) _) _) hb
    have hm := m6_keep hb (m6_alloc (.cells #[.int .i64 0, .int .i64 0] 23) (m6_new w _ t0 t1 ax ay bx by'))
    have pr := b2_keep hb (b2_new1 w _ _ 0 0)
    clear hb
    go_wp2_with fail
    have hr := b2_set1 0 (b2_set0 0 pr)
    refine bodyPost_ret (v := .tuple #[.agg #[.int .i64 0, .int .i64 0], .int .i64 12]) ?_ rfl ⟨rfl, b_set (b_set hw (by simp) _) (by simp) _⟩
    simp [results, Try.results40, go_sem, hr.1.1, hr.1.2]
set_option maxHeartbeats 600000 in
theorem at_ok {t0 t1 ax ay bx by' t : Int} (h : mok t0 t1 ax ay bx by') (h1 : t0 ≤ t) (h2 : t ≤ t1) : AT t0 t1 ax ay bx by' t (tw ax bx (t - t0) (t1 - t0)) (tw ay by' (t - t0) (t1 - t0)) 0 := fun w => by
  have C1 : Hid (MC t0 t1 ax ay bx by' 0) := mc_ok h
  have T1 : Hid (∀ w : World, Calls Try.prog 34 #[.agg #[.int .i64 ax, .int .i64 ay], .agg #[.int .i64 bx, .int .i64 by'], .int .i64 (t - t0), .int .i64 (t1 - t0)] w fun e w' => e = .returned (.tuple #[.agg #[.int .i64 (tw ax bx (t - t0) (t1 - t0)), .int .i64 (tw ay by' (t - t0) (t1 - t0))], .int .i64 0]) ∧ Below w.heap.size w w') :=
    fun w => toward_ok ax ay bx by' (t - t0) (t1 - t0) w (by omega) (by omega) (by omega) (by omega) h.2.1 h.2.2
  obtain ⟨⟨b1, b2, b3⟩, _, _⟩ := h
  generalize tw ax bx (t - t0) (t1 - t0) = X at *
  generalize tw ay by' (t - t0) (t1 - t0) = Y at *
  go_enter Try.func40, Try.ntmps40
  go_wp2_with fail
  refine (C1.out _).mono ?_; rintro e w1 ⟨rfl, hb⟩
  have hw := b_next (b_alloc (b_alloc (Below.refl _ w) _) _) hb
  have hm := m6_keep hb (m6_alloc (.cells #[.int .i64 0, .int .i64 0] 23) (m6_new w _ t0 t1 ax ay bx by'))
  have pr := b2_keep hb (b2_new1 w _ _ 0 0)
  clear hb
  go_wp2_with fail
  refine (T1.out _).mono ?_; rintro e w1 ⟨rfl, hb⟩
  replace hw := b_next hw hb
  replace pr := b2_keep hb pr
  clear hb hm
  go_wp2_with fail
  have hr := b2_set1 Y (b2_set0 X pr)
  refine bodyPost_ret (v := .tuple #[.agg #[.int .i64 X, .int .i64 Y], .int .i64 0]) ?_ rfl ⟨rfl, b_set (b_set hw (by simp) _) (by simp) _⟩
  simp [results, Try.results40, go_sem, hr.1.1, hr.1.2]
abbrev BC (m0 m1 max may mbx mby n0 n1 nax nay nbx nby r : Int) : Prop := ∀ w : World, Calls Try.prog 57 #[.agg #[.int .i64 m0, .int .i64 m1, .int .i64 max, .int .i64 may, .int .i64 mbx, .int .i64 mby], .agg #[.int .i64 n0, .int .i64 n1, .int .i64 nax, .int .i64 nay, .int .i64 nbx, .int .i64 nby]] w fun e w' => e = .returned (.int .i64 r) ∧ Below w.heap.size w w'
set_option maxHeartbeats 600000 in
theorem both_first {m0 m1 max may mbx mby : Int} (n0 n1 nax nay nbx nby : Int) (h : ¬ mok m0 m1 max may mbx mby) : BC m0 m1 max may mbx mby n0 n1 nax nay nbx nby (mchk m0 m1 max may mbx mby) := fun w => by
  obtain ⟨hE, hE'⟩ := ne_bool (mchk_bad h)
  have C1 : Hid (MC m0 m1 max may mbx mby (mchk m0 m1 max may mbx mby)) := fun w => checkC m0 m1 max may mbx mby w
  clear h
  generalize mchk m0 m1 max may mbx mby = E at *
  go_enter Try.func57, Try.ntmps57
  go_wp2_with fail
  refine (C1.out _).mono ?_; rintro e w1 ⟨rfl, hb⟩
  go_wp2_with fail
  go_ret
  exact ⟨rfl, b_next (b_alloc (b_alloc (Below.refl _ w) _) _) hb⟩
set_option maxHeartbeats 600000 in
theorem both_second {m0 m1 max may mbx mby : Int} (n0 n1 nax nay nbx nby : Int) (h : mok m0 m1 max may mbx mby) : BC m0 m1 max may mbx mby n0 n1 nax nay nbx nby (mchk n0 n1 nax nay nbx nby) := fun w => by
  have C1 : Hid (MC m0 m1 max may mbx mby 0) := mc_ok h
  have C2 : Hid (MC n0 n1 nax nay nbx nby (mchk n0 n1 nax nay nbx nby)) := fun w => checkC n0 n1 nax nay nbx nby w
  clear h
  generalize mchk n0 n1 nax nay nbx nby = E at *
  go_enter Try.func57, Try.ntmps57
  go_wp2_with fail
  refine (C1.out _).mono ?_; rintro e w1 ⟨rfl, hb⟩
  have hw := b_next (b_alloc (b_alloc (Below.refl _ w) _) _) hb
  have hn := m6_keep hb (m6_new1 w _ _ n0 n1 nax nay nbx nby)
  clear hb
  go_wp2_with fail
  refine (C2.out _).mono ?_; rintro e w1 ⟨rfl, hb⟩
  go_wp2_with fail
  go_ret
  exact ⟨rfl, b_next hw hb⟩
abbrev SQ (m0 m1 max may mbx mby n0 n1 nax nay nbx nby t r : Int) : Prop := ∀ w : World, Calls Try.prog 58 #[.agg #[.int .i64 m0, .int .i64 m1, .int .i64 max, .int .i64 may, .int .i64 mbx, .int .i64 mby], .agg #[.int .i64 n0, .int .i64 n1, .int .i64 nax, .int .i64 nay, .int .i64 nbx, .int .i64 nby], .int .i64 t] w fun e w' => e = .returned (.int .i64 r) ∧ Below w.heap.size w w'
/-- The squared distance at a second. -/
def sqd (m0 m1 max may mbx mby n0 n1 nax nay nbx nby t : Int) : Int := sqr (tw max mbx (t - m0) (m1 - m0)) (tw may mby (t - m0) (m1 - m0)) (tw nax nbx (t - n0) (n1 - n0)) (tw nay nby (t - n0) (n1 - n0))
theorem tw_good {a b n d : Int} (ha : -1000000 ≤ a ∧ a ≤ 1000000) (hb : -1000000 ≤ b ∧ b ≤ 1000000) (hd : 0 < d) (hn : 0 ≤ n) (hnd : n ≤ d) : -1000000 ≤ tw a b n d ∧ tw a b n d ≤ 1000000 := by
  have := tw_bd (a := a) (b := b) hd hn hnd
  omega
theorem sqd_bd {m0 m1 max may mbx mby n0 n1 nax nay nbx nby t : Int} (hm : mok m0 m1 max may mbx mby) (hn : mok n0 n1 nax nay nbx nby) (h1 : m0 ≤ t) (h2 : t ≤ m1) (h3 : n0 ≤ t) (h4 : t ≤ n1) : 0 ≤ sqd m0 m1 max may mbx mby n0 n1 nax nay nbx nby t ∧ sqd m0 m1 max may mbx mby n0 n1 nax nay nbx nby t ≤ 8000000000000 := by
  have a1 := tw_good (a := max) (b := mbx) (n := t - m0) (d := m1 - m0) (by omega) (by omega) (by omega) (by omega) (by omega)
  have a2 := tw_good (a := may) (b := mby) (n := t - m0) (d := m1 - m0) (by omega) (by omega) (by omega) (by omega) (by omega)
  have a3 := tw_good (a := nax) (b := nbx) (n := t - n0) (d := n1 - n0) (by omega) (by omega) (by omega) (by omega) (by omega)
  have a4 := tw_good (a := nay) (b := nby) (n := t - n0) (d := n1 - n0) (by omega) (by omega) (by omega) (by omega) (by omega)
  exact ⟨sqr_nonneg _ _ _ _, sqr_near (by omega) (by omega)⟩
abbrev PS (ax ay bx by' r : Int) : Prop := ∀ w : World, Calls Try.prog 18 #[.agg #[.int .i64 ax, .int .i64 ay], .agg #[.int .i64 bx, .int .i64 by']] w fun e w' => e = .returned (.int .i64 r) ∧ Below w.heap.size w w'
theorem sq_at {m0 m1 max may mbx mby n0 n1 nax nay nbx nby t : Int} (hm : mok m0 m1 max may mbx mby) (hn : mok n0 n1 nax nay nbx nby) (h1 : m0 ≤ t) (h2 : t ≤ m1) (h3 : n0 ≤ t) (h4 : t ≤ n1) :
    PS (tw max mbx (t - m0) (m1 - m0)) (tw may mby (t - m0) (m1 - m0)) (tw nax nbx (t - n0) (n1 - n0)) (tw nay nby (t - n0) (n1 - n0)) (sqd m0 m1 max may mbx mby n0 n1 nax nay nbx nby t) := fun w => by
  have a1 := tw_good (a := max) (b := mbx) (n := t - m0) (d := m1 - m0) (by omega) (by omega) (by omega) (by omega) (by omega)
  have a2 := tw_good (a := may) (b := mby) (n := t - m0) (d := m1 - m0) (by omega) (by omega) (by omega) (by omega) (by omega)
  have a3 := tw_good (a := nax) (b := nbx) (n := t - n0) (d := n1 - n0) (by omega) (by omega) (by omega) (by omega) (by omega)
  have a4 := tw_good (a := nay) (b := nby) (n := t - n0) (d := n1 - n0) (by omega) (by omega) (by omega) (by omega) (by omega)
  exact Plane.square _ _ _ _ w (M := 1000000000) rfl (by omega)
set_option maxHeartbeats 600000 in
theorem square_ok {m0 m1 max may mbx mby n0 n1 nax nay nbx nby t : Int} (hm : mok m0 m1 max may mbx mby) (hn : mok n0 n1 nax nay nbx nby) (h1 : m0 ≤ t) (h2 : t ≤ m1) (h3 : n0 ≤ t) (h4 : t ≤ n1) : SQ m0 m1 max may mbx mby n0 n1 nax nay nbx nby t (sqd m0 m1 max may mbx mby n0 n1 nax nay nbx nby t) := fun w => by
  have A1 : Hid (AT m0 m1 max may mbx mby t _ _ 0) := at_ok hm h1 h2
  have A2 : Hid (AT n0 n1 nax nay nbx nby t _ _ 0) := at_ok hn h3 h4
  have a1 := tw_good (a := max) (b := mbx) (n := t - m0) (d := m1 - m0) (by omega) (by omega) (by omega) (by omega) (by omega)
  have a2 := tw_good (a := may) (b := mby) (n := t - m0) (d := m1 - m0) (by omega) (by omega) (by omega) (by omega) (by omega)
  have a3 := tw_good (a := nax) (b := nbx) (n := t - n0) (d := n1 - n0) (by omega) (by omega) (by omega) (by omega) (by omega)
  have a4 := tw_good (a := nay) (b := nby) (n := t - n0) (d := n1 - n0) (by omega) (by omega) (by omega) (by omega) (by omega)
  have S1 : Hid (∀ w : World, _) := fun w => Plane.square (tw max mbx (t - m0) (m1 - m0)) (tw may mby (t - m0) (m1 - m0)) (tw nax nbx (t - n0) (n1 - n0)) (tw nay nby (t - n0) (n1 - n0)) w rfl (by omega)
  unfold sqd
  clear a1 a2 a3 a4 h1 h2 h3 h4 hm hn
  generalize tw max mbx (t - m0) (m1 - m0) = X at *
  generalize tw may mby (t - m0) (m1 - m0) = Y at *
  generalize tw nax nbx (t - n0) (n1 - n0) = X' at *
  generalize tw nay nby (t - n0) (n1 - n0) = Y' at *
  go_enter Try.func58, Try.ntmps58
  go_wp2_with fail
  refine (A1.out _).mono ?_; rintro e w1 ⟨rfl, hb⟩
  have hw := b_alloc (b_next (b_alloc (b_alloc (Below.refl _ w) _) _) hb) (.cells #[.int .i64 X, .int .i64 Y] 23)
  have hn := m6_alloc (.cells #[.int .i64 X, .int .i64 Y] 23) (m6_keep hb (m6_new1 w _ _ n0 n1 nax nay nbx nby))
  have hp := p2_new w1 23 X Y
  clear hb
  go_wp2_with fail
  refine (A2.out _).mono ?_; rintro e w2 ⟨rfl, hb⟩
  replace hw := b_alloc (b_next hw hb) (.cells #[.int .i64 X', .int .i64 Y'] 23)
  replace hp := p2_alloc (.cells #[.int .i64 X', .int .i64 Y'] 23) (p2_keep hb hp)
  have hq := p2_new w2 23 X' Y'
  clear hb hn
  go_wp2_with fail
  refine (S1.out _).mono ?_; rintro e w3 ⟨rfl, hb⟩
  go_wp2_with fail
  go_ret
  exact ⟨rfl, b_next hw hb⟩
theorem ret3 {a b c d e f : Int} (h1 : a = d) (h2 : b = e) (h3 : c = f) : Ending.returned (.tuple #[.int .i64 a, .int .i64 b, .int .i64 c]) = .returned (.tuple #[.int .i64 d, .int .i64 e, .int .i64 f]) := by rw [h1, h2, h3]
abbrev LC (m0 m1 max may mbx mby n0 n1 nax nay nbx nby r q e' : Int) : Prop := ∀ w : World, Calls Try.prog 42 #[.agg #[.int .i64 m0, .int .i64 m1, .int .i64 max, .int .i64 may, .int .i64 mbx, .int .i64 mby], .agg #[.int .i64 n0, .int .i64 n1, .int .i64 nax, .int .i64 nay, .int .i64 nbx, .int .i64 nby]] w fun e w' => e = .returned (.tuple #[.int .i64 r, .int .i64 q, .int .i64 e']) ∧ Below w.heap.size w w'
set_option maxHeartbeats 600000 in
theorem least_bad {m0 m1 max may mbx mby n0 n1 nax nay nbx nby E : Int} (B1 : Hid (BC m0 m1 max may mbx mby n0 n1 nax nay nbx nby E)) (hE : E ≠ 0) : LC m0 m1 max may mbx mby n0 n1 nax nay nbx nby 0 0 E := fun w => by
  obtain ⟨hE1, hE2⟩ := ne_bool hE
  clear hE
  go_enter Try.func42, Try.ntmps42
  go_wp2_with fail
  refine (B1.out _).mono ?_; rintro e w1 ⟨rfl, hb⟩
  have hw := b_next (b_alloc (b_alloc (Below.refl _ w) _) _) hb
  have hm := m6_keep hb (m6_alloc (.cells #[.int .i64 n0, .int .i64 n1, .int .i64 nax, .int .i64 nay, .int .i64 nbx, .int .i64 nby] 55) (m6_new w _ m0 m1 max may mbx mby))
  have hn := m6_keep hb (m6_new1 w _ _ n0 n1 nax nay nbx nby)
  clear hb
  go_wp2_with fail
  go_ret3
  exact ⟨rfl, hw⟩
set_option maxHeartbeats 600000 in
theorem least_none {m0 m1 max may mbx mby n0 n1 nax nay nbx nby lo hi : Int} (B1 : Hid (BC m0 m1 max may mbx mby n0 n1 nax nay nbx nby 0)) (hlo : (if m0 < n0 then n0 else m0) = lo) (hhi : (if n1 < m1 then n1 else m1) = hi) (hlt : hi < lo) : LC m0 m1 max may mbx mby n0 n1 nax nay nbx nby 0 0 8 := fun w => by
  go_enter Try.func42, Try.ntmps42
  go_wp2_with fail
  refine (B1.out _).mono ?_; rintro e w1 ⟨rfl, hb⟩
  have hw := b_next (b_alloc (b_alloc (Below.refl _ w) _) _) hb
  have hm := m6_keep hb (m6_alloc (.cells #[.int .i64 n0, .int .i64 n1, .int .i64 nax, .int .i64 nay, .int .i64 nbx, .int .i64 nby] 55) (m6_new w _ m0 m1 max may mbx mby))
  have hn := m6_keep hb (m6_new1 w _ _ n0 n1 nax nay nbx nby)
  clear hb
  go_wp2_with fail
  refine region_below (by kernel_rfl) (by kernel_rfl) ?_
  repeat
    (refine q_step rfl ?_
     apply Exists.intro
     refine ⟨fun wq hc hq => ?_, ?_⟩
     · have pa' := m6_keep hq hm; have pb' := m6_keep hq hn; clear hc
       go_simp
       first
         | rfl
     simp only [Act.put, List.setIfInBounds_toArray, List.set_cons_zero, List.set_cons_succ])
  refine wpQuiet_nil ?_
  intro w2 hb2
  replace hw := b_next hw hb2
  replace hm := m6_keep hb2 hm; replace hn := m6_keep hb2 hn
  clear hb2
  go_wp2_with fail
  go_ret3
  exact ⟨rfl, hw⟩
set_option maxHeartbeats 1000000 in
theorem least_ok {m0 m1 max may mbx mby n0 n1 nax nay nbx nby lo hi : Int} (f : Int → Int) (B1 : Hid (BC m0 m1 max may mbx mby n0 n1 nax nay nbx nby 0)) (hlo : (if m0 < n0 then n0 else m0) = lo) (hhi : (if n1 < m1 then n1 else m1) = hi) (hle : lo ≤ hi) (h0 : 0 ≤ lo) (h1 : hi ≤ 200000) (S1 : Hid (∀ t, lo ≤ t → t ≤ hi → SQ m0 m1 max may mbx mby n0 n1 nax nay nbx nby t (f t))) :
    LC m0 m1 max may mbx mby n0 n1 nax nay nbx nby (f (arg f lo (hi - lo).toNat)) (arg f lo (hi - lo).toNat) 0 := fun w => by
  go_enter Try.func42, Try.ntmps42
  go_wp2_with fail
  refine (B1.out _).mono ?_; rintro e w1 ⟨rfl, hb⟩
  have hw := b_next (b_alloc (b_alloc (Below.refl _ w) _) _) hb
  have hm := m6_keep hb (m6_alloc (.cells #[.int .i64 n0, .int .i64 n1, .int .i64 nax, .int .i64 nay, .int .i64 nbx, .int .i64 nby] 55) (m6_new w _ m0 m1 max may mbx mby))
  have hn := m6_keep hb (m6_new1 w _ _ n0 n1 nax nay nbx nby)
  clear hb
  go_wp2_with fail
  refine region_below (by kernel_rfl) (by kernel_rfl) ?_
  repeat
    (refine q_step rfl ?_
     apply Exists.intro
     refine ⟨fun wq hc hq => ?_, ?_⟩
     · have pa' := m6_keep hq hm; have pb' := m6_keep hq hn; clear hc
       go_simp
       first
         | rfl
     simp only [Act.put, List.setIfInBounds_toArray, List.set_cons_zero, List.set_cons_succ])
  refine wpQuiet_nil ?_
  intro w2 hb2
  replace hw := b_next hw hb2
  replace hm := m6_keep hb2 hm; replace hn := m6_keep hb2 hn
  clear hb2
  go_wp2_with fail
  refine (S1.out lo (by omega) hle _).mono ?_; rintro e w3 ⟨rfl, hb⟩
  replace hw := b_next hw hb
  replace hm := m6_keep hb hm; replace hn := m6_keep hb hn
  clear hb
  go_wp2_with fail
  go_loopw [10, 11, 12] (fun b a t wr => ∃ k : Nat, lo + k ≤ hi ∧ t = .int .i64 (lo + 1 + k) ∧ a = .int .i64 (arg f lo k) ∧ b = .int .i64 (f (arg f lo k)) ∧ Below w.heap.size w wr ∧ M6 wr w.heap.size m0 m1 max may mbx mby ∧ M6 wr (w.heap.size + 1) n0 n1 nax nay nbx nby) (fun _ _ t _ => (hi + 1 - intOf t).toNat)
  case atStart => exact ⟨0, by omega, by simp, rfl, rfl, hw, hm, hn⟩
  case round =>
    clear hw hm hn
    obtain ⟨k, hk, rfl, rfl, rfl, hw, hm, hn⟩ := hrel
    by_cases hlt : lo + 1 + k ≤ hi
    · have C := S1.out (lo + 1 + k) (by omega) hlt
      by_cases hc : f (lo + 1 + k) < f (arg f lo k)
      · have ha : arg f lo (k + 1) = lo + 1 + k := by
          show (if f (lo + (k + 1 : Nat)) < f (arg f lo k) then _ else _) = _
          rw [show lo + ((k + 1 : Nat) : Int) = lo + 1 + k from by omega, if_pos hc]
        have HA := Lib.hid ha; have CC := Lib.hid C; clear ha C
        go_wp2_with fail
        refine (CC.out _).mono ?_; rintro e w4 ⟨rfl, hb⟩
        go_wp2_with fail
        go_roundw
        case rel => exact ⟨k + 1, by omega, by congr 1; omega, by rw [HA.out], by rw [HA.out], b_next hw hb, m6_keep hb hm, m6_keep hb hn⟩
        case measure => simp [intOf]; omega
      · have ha : arg f lo (k + 1) = arg f lo k := by
          show (if f (lo + (k + 1 : Nat)) < f (arg f lo k) then _ else _) = _
          rw [show lo + ((k + 1 : Nat) : Int) = lo + 1 + k from by omega, if_neg hc]
        have HA := Lib.hid ha; have CC := Lib.hid C; clear ha C
        go_wp2_with fail
        refine (CC.out _).mono ?_; rintro e w4 ⟨rfl, hb⟩
        go_wp2_with fail
        go_roundw
        case rel => exact ⟨k + 1, by omega, by congr 1; omega, by rw [HA.out], by rw [HA.out], b_next hw hb, m6_keep hb hm, m6_keep hb hn⟩
        case measure => simp [intOf]; omega
    · have hkk : (hi - lo).toNat = k := by omega
      have HK := Lib.hid hkk; clear hkk
      go_wp2_with fail
      go_ret3
      exact ⟨ret3 (by rw [HK.out]) (by rw [HK.out]) rfl, hw⟩
abbrev FC (m0 m1 max may mbx mby n0 n1 nax nay nbx nby d r e' : Int) : Prop := ∀ w : World, Calls Try.prog 43 #[.agg #[.int .i64 m0, .int .i64 m1, .int .i64 max, .int .i64 may, .int .i64 mbx, .int .i64 mby], .agg #[.int .i64 n0, .int .i64 n1, .int .i64 nax, .int .i64 nay, .int .i64 nbx, .int .i64 nby], .int .i64 d] w fun e w' => e = .returned (.tuple #[.int .i64 r, .int .i64 e']) ∧ Below w.heap.size w w'
set_option maxHeartbeats 600000 in
theorem first_bad {m0 m1 max may mbx mby n0 n1 nax nay nbx nby E : Int} (d : Int) (B1 : Hid (BC m0 m1 max may mbx mby n0 n1 nax nay nbx nby E)) (hE : E ≠ 0) : FC m0 m1 max may mbx mby n0 n1 nax nay nbx nby d 0 E := fun w => by
  obtain ⟨hE1, hE2⟩ := ne_bool hE
  clear hE
  go_enter Try.func43, Try.ntmps43
  go_wp2_with fail
  refine (B1.out _).mono ?_; rintro e w1 ⟨rfl, hb⟩
  have hw := b_next (b_alloc (b_alloc (Below.refl _ w) _) _) hb
  have hm := m6_keep hb (m6_alloc (.cells #[.int .i64 n0, .int .i64 n1, .int .i64 nax, .int .i64 nay, .int .i64 nbx, .int .i64 nby] 55) (m6_new w _ m0 m1 max may mbx mby))
  have hn := m6_keep hb (m6_new1 w _ _ n0 n1 nax nay nbx nby)
  clear hb
  go_wp2_with fail
  go_ret2
  exact ⟨rfl, hw⟩
set_option maxHeartbeats 600000 in
theorem first_range {m0 m1 max may mbx mby n0 n1 nax nay nbx nby d : Int} (B1 : Hid (BC m0 m1 max may mbx mby n0 n1 nax nay nbx nby 0)) (hd : d < 0 ∨ 1000000 < d) : FC m0 m1 max may mbx mby n0 n1 nax nay nbx nby d 0 4 := fun w => by
  by_cases h : d < 0
  · clear hd
    go_enter Try.func43, Try.ntmps43
    go_wp2_with fail
    refine (B1.out _).mono ?_; rintro e w1 ⟨rfl, hb⟩
    have hw := b_next (b_alloc (b_alloc (Below.refl _ w) _) _) hb
    have hm := m6_keep hb (m6_alloc (.cells #[.int .i64 n0, .int .i64 n1, .int .i64 nax, .int .i64 nay, .int .i64 nbx, .int .i64 nby] 55) (m6_new w _ m0 m1 max may mbx mby))
    have hn := m6_keep hb (m6_new1 w _ _ n0 n1 nax nay nbx nby)
    clear hb
    go_wp2_with fail
    go_ret2
    exact ⟨rfl, hw⟩
  · have h2 : 1000000 < d := by omega
    clear hd
    go_enter Try.func43, Try.ntmps43
    go_wp2_with fail
    refine (B1.out _).mono ?_; rintro e w1 ⟨rfl, hb⟩
    have hw := b_next (b_alloc (b_alloc (Below.refl _ w) _) _) hb
    have hm := m6_keep hb (m6_alloc (.cells #[.int .i64 n0, .int .i64 n1, .int .i64 nax, .int .i64 nay, .int .i64 nbx, .int .i64 nby] 55) (m6_new w _ m0 m1 max may mbx mby))
    have hn := m6_keep hb (m6_new1 w _ _ n0 n1 nax nay nbx nby)
    clear hb
    go_wp2_with fail
    go_ret2
    exact ⟨rfl, hw⟩
/-- What First returns: the first second below d, or none. -/
def FirstIs (f : Int → Int) (lo hi q : Int) (r e' : Int) : Prop := (e' = 0 ∧ lo ≤ r ∧ r ≤ hi ∧ f r < q ∧ ∀ t, lo ≤ t → t < r → q ≤ f t) ∨ (e' = 8 ∧ r = 0 ∧ ∀ t, lo ≤ t → t ≤ hi → q ≤ f t)
theorem firstIs_unique {f : Int → Int} {lo hi q r e r' e' : Int} (h : FirstIs f lo hi q r e) (h' : FirstIs f lo hi q r' e') : r = r' ∧ e = e' := by
  rcases h with ⟨a1, a2, a3, a4, a5⟩ | ⟨a1, a2, a3⟩ <;> rcases h' with ⟨b1, b2, b3, b4, b5⟩ | ⟨b1, b2, b3⟩
  · refine ⟨?_, by omega⟩
    rcases Int.lt_trichotomy r r' with h | h | h
    · have := b5 r a2 h; omega
    · exact h
    · have := a5 r' b2 h; omega
  · have := b3 r a2 a3; omega
  · have := a3 r' b2 b3; omega
  · omega
theorem least_exists (p : Nat → Prop) : ∀ n, p n → ∃ m, p m ∧ ∀ k, k < m → ¬ p k := by
  intro n
  induction n using Nat.strongRecOn with
  | _ n ih =>
    intro hn
    by_cases h : ∃ k, k < n ∧ p k
    · obtain ⟨k, hk, hp⟩ := h; exact ih k hk hp
    · exact ⟨n, hn, fun k hk hp => h ⟨k, hk, hp⟩⟩
theorem firstIs_exists (f : Int → Int) (lo hi q : Int) : ∃ r e, FirstIs f lo hi q r e := by
  by_cases h : ∃ n : Nat, lo + n ≤ hi ∧ f (lo + n) < q
  · obtain ⟨n, hn⟩ := h
    obtain ⟨m, ⟨h1, h2⟩, h3⟩ := least_exists (fun n => lo + (n : Int) ≤ hi ∧ f (lo + n) < q) n hn
    refine ⟨lo + m, 0, Or.inl ⟨rfl, by omega, h1, h2, fun t g1 g2 => ?_⟩⟩
    rcases Int.lt_or_le (f t) q with hl | hl
    · exact absurd ⟨by omega, by rw [show lo + ((t - lo).toNat : Int) = t from by omega]; exact hl⟩ (h3 (t - lo).toNat (by omega))
    · exact hl
  · refine ⟨0, 8, Or.inr ⟨rfl, rfl, fun t g1 g2 => ?_⟩⟩
    rcases Int.lt_or_le (f t) q with hl | hl
    · exact absurd ⟨(t - lo).toNat, by omega, by rw [show lo + ((t - lo).toNat : Int) = t from by omega]; exact hl⟩ h
    · exact hl
set_option maxHeartbeats 1000000 in
theorem first_ok {m0 m1 max may mbx mby n0 n1 nax nay nbx nby lo hi d : Int} (f : Int → Int) (B1 : Hid (BC m0 m1 max may mbx mby n0 n1 nax nay nbx nby 0)) (hlo : (if m0 < n0 then n0 else m0) = lo) (hhi : (if n1 < m1 then n1 else m1) = hi) (h0 : 0 ≤ lo) (h1 : hi ≤ 200000) (hlo2 : lo ≤ 200000) (hd0 : 0 ≤ d) (hd1 : d ≤ 1000000) (S1 : Hid (∀ t, lo ≤ t → t ≤ hi → SQ m0 m1 max may mbx mby n0 n1 nax nay nbx nby t (f t))) {r e' : Int} (FI : Hid (FirstIs f lo hi (d * d) r e')) :
    FC m0 m1 max may mbx mby n0 n1 nax nay nbx nby d r e' := fun w => by
  have hdd : d * d ≤ 1000000000000 := sq_le_of (M := 1000000) (by omega)
  have hdd0 := sq_nonneg d
  go_enter Try.func43, Try.ntmps43
  go_wp2_with fail
  refine (B1.out _).mono ?_; rintro e w1 ⟨rfl, hb⟩
  have hw := b_next (b_alloc (b_alloc (Below.refl _ w) _) _) hb
  have hm := m6_keep hb (m6_alloc (.cells #[.int .i64 n0, .int .i64 n1, .int .i64 nax, .int .i64 nay, .int .i64 nbx, .int .i64 nby] 55) (m6_new w _ m0 m1 max may mbx mby))
  have hn := m6_keep hb (m6_new1 w _ _ n0 n1 nax nay nbx nby)
  clear hb
  go_wp2_with fail
  go_loopw [9] (fun t wr => ∃ k : Int, lo ≤ k ∧ k ≤ 200001 ∧ (∀ t, lo ≤ t → t < k → t ≤ hi → d * d ≤ f t) ∧ t = .int .i64 k ∧ Below w.heap.size w wr ∧ M6 wr w.heap.size m0 m1 max may mbx mby ∧ M6 wr (w.heap.size + 1) n0 n1 nax nay nbx nby) (fun t _ => (hi + 1 - intOf t).toNat)
  case atStart => exact ⟨lo, by omega, by omega, fun t _ _ => by omega, rfl, hw, hm, hn⟩
  case round =>
    clear hw hm hn
    obtain ⟨k, hk, hk2, hall, rfl, hw, hm, hn⟩ := hrel
    have HALL := Lib.hid hall; clear hall
    by_cases hlt : k ≤ hi
    · have CC := Lib.hid (S1.out k hk hlt)
      by_cases hc : f k < d * d
      · have HC := Lib.hid hc
        go_wp2_with fail
        refine (CC.out _).mono ?_; rintro e w4 ⟨rfl, hb⟩
        go_wp2_with fail
        go_ret2
        obtain ⟨u1, u2⟩ := firstIs_unique FI.out (Or.inl ⟨rfl, hk, hlt, HC.out, fun t g1 g2 => HALL.out t g1 g2 (by omega)⟩)
        exact ⟨ret2 u1.symm u2.symm, b_next hw hb⟩
      · have HC := Lib.hid hc
        go_wp2_with fail
        refine (CC.out _).mono ?_; rintro e w4 ⟨rfl, hb⟩
        go_wp2_with fail
        go_roundw
        case rel =>
          refine ⟨k + 1, by omega, by omega, fun t g1 g2 g3 => ?_, rfl, b_next hw hb, m6_keep hb hm, m6_keep hb hn⟩
          by_cases e : t = k
          · rw [e]; exact HC.out
          · exact HALL.out t g1 (by omega) g3
        case measure => simp [intOf]; omega
    · go_wp2_with fail
      go_ret2
      obtain ⟨u1, u2⟩ := firstIs_unique FI.out (Or.inr ⟨rfl, rfl, fun t g1 g2 => HALL.out t g1 (by omega) g2⟩)
      exact ⟨ret2 u1.symm u2.symm, hw⟩
abbrev SC (t0 t1 ax ay bx by' r q e' : Int) : Prop := ∀ w : World, Calls Try.prog 38 #[.agg #[.int .i64 t0, .int .i64 t1, .int .i64 ax, .int .i64 ay, .int .i64 bx, .int .i64 by']] w fun e w' => e = .returned (.tuple #[.int .i64 r, .int .i64 q, .int .i64 e']) ∧ Below w.heap.size w w'
set_option maxHeartbeats 600000 in
theorem speed_bad {t0 t1 ax ay bx by' : Int} (h : ¬ mok t0 t1 ax ay bx by') : SC t0 t1 ax ay bx by' 0 0 (mchk t0 t1 ax ay bx by') := fun w => by
  obtain ⟨hE, hE'⟩ := ne_bool (mchk_bad h)
  have C1 : Hid (MC t0 t1 ax ay bx by' (mchk t0 t1 ax ay bx by')) := fun w => checkC t0 t1 ax ay bx by' w
  clear h
  generalize mchk t0 t1 ax ay bx by' = E at *
  go_enter Try.func38, Try.ntmps38
  go_wp2_with fail
  refine (C1.out _).mono ?_; rintro e w1 ⟨rfl, hb⟩
  go_wp2_with fail
  go_ret3
  exact ⟨rfl, b_next (b_alloc (Below.refl _ w) _) hb⟩
set_option maxHeartbeats 600000 in
theorem speed_ok {t0 t1 ax ay bx by' : Int} (h : mok t0 t1 ax ay bx by') : SC t0 t1 ax ay bx by' (root (sqr ax ay bx by') / (t1 - t0)) (Num.du (dup (sqr ax ay bx by')) (t1 - t0)) 0 := fun w => by
  have C1 : Hid (MC t0 t1 ax ay bx by' 0) := mc_ok h
  have l := dup_le (sqr_nonneg ax ay bx by') (sqr_near h.2.1 h.2.2)
  have l0 := root_nonneg (sqr ax ay bx by')
  have l1 := dup_near (sqr ax ay bx by')
  have D1 : Hid (∀ w : World, _) := fun w => distance ax ay bx by' w rfl (by omega)
  have U1 : Hid (∀ w : World, Calls Try.prog 31 #[.int .i64 (dup (sqr ax ay bx by')), .int .i64 (t1 - t0)] w fun e w' => e = .returned (.tuple #[.int .i64 (Num.du (dup (sqr ax ay bx by')) (t1 - t0)), .int .i64 0]) ∧ w = w') := fun w => by
    have c := Num.divUp (dup (sqr ax ay bx by')) (t1 - t0) w (by omega) (by omega)
    rw [(Num.dd_ok (by omega) (by omega)).2] at c
    exact c
  obtain ⟨⟨b1, b2, b3⟩, _, _⟩ := h
  generalize Num.du (dup (sqr ax ay bx by')) (t1 - t0) = U at *
  generalize root (sqr ax ay bx by') = R at *
  generalize dup (sqr ax ay bx by') = D at *
  go_enter Try.func38, Try.ntmps38
  go_wp2_with fail
  refine (C1.out _).mono ?_; rintro e w1 ⟨rfl, hb⟩
  have hw := b_next (b_alloc (Below.refl _ w) _) hb
  have hm := m6_keep hb (m6_new w _ t0 t1 ax ay bx by')
  clear hb
  go_wp2_with fail
  refine (D1.out _).mono ?_; rintro e w2 ⟨rfl, hb⟩
  replace hw := b_next hw hb; replace hm := m6_keep hb hm
  clear hb
  go_wp2_with fail
  refine (U1.out _).mono ?_; rintro e w3 ⟨rfl, rfl⟩
  go_wp2_with fail
  go_ret3
  exact ⟨rfl, hw⟩
theorem works_mok : mok 0 4 0 0 10 0 := by omega
theorem works_sp : root (sqr 0 0 10 0) = 10 ∧ dup (sqr 0 0 10 0) = 10 ∧ tw 0 10 (1 - 0) (4 - 0) = 2 ∧ tw 0 0 (1 - 0) (4 - 0) = 0 ∧ Num.du 10 (4 - 0) = 3 ∧ (10 : Int) / (4 - 0) = 2 := by
  have h : root (sqr 0 0 10 0) = 10 := root_unique (by omega) (by decide) (by decide)
  refine ⟨h, ?_, by decide, by decide, by decide, by decide⟩
  unfold dup; rw [h, if_neg (by decide)]
set_option maxHeartbeats 600000 in
theorem motionWorks (w : World) : Calls Try.prog 37 #[] w fun e w' => e = .returned (.bool true) ∧ Below w.heap.size w w' := by
  have A1 := at_ok (t := 1) works_mok (by omega) (by omega)
  have S1 := speed_ok works_mok
  rw [works_sp.2.2.1, works_sp.2.2.2.1] at A1
  rw [works_sp.1, works_sp.2.1, works_sp.2.2.2.2.1, works_sp.2.2.2.2.2] at S1
  have HA := Lib.hid A1; have HS := Lib.hid S1
  clear A1 S1
  go_enter Try.func37, Try.ntmps37
  go_wp2_with fail
  refine (HA.out _).mono ?_; rintro e w1 ⟨rfl, hb⟩
  have hw := b_alloc (b_next (b_alloc (Below.refl _ w) _) hb) (.cells #[.int .i64 2, .int .i64 0] 23)
  have hm := m6_alloc (.cells #[.int .i64 2, .int .i64 0] 23) (m6_keep hb (m6_new w _ 0 4 0 0 10 0))
  have hp := p2_new w1 23 2 0
  clear hb
  go_wp2_with fail
  refine (HS.out _).mono ?_; rintro e w2 ⟨rfl, hb⟩
  replace hw := b_next hw hb; replace hp := p2_keep hb hp
  clear hb hm
  go_wp2_with fail
  go_ret
  exact ⟨rfl, hw⟩
/-- What short makes of the second time. -/
def sh (t0 t1 : Int) : Int := if 0 ≤ t0 ∧ wrap64 (t0 + 300) < t1 ∧ t1 ≤ 200000 then wrap64 (t0 + 300) else t1
abbrev M6F (w : World) (b : Nat) : Prop := (w.frozen? ⟨b, 0, none⟩ = false ∧ w.frozen? ⟨b, 1, none⟩ = false) ∧ (w.frozen? ⟨b, 2, none⟩ = false ∧ w.frozen? ⟨b, 3, none⟩ = false) ∧ (w.frozen? ⟨b, 4, none⟩ = false ∧ w.frozen? ⟨b, 5, none⟩ = false)
theorem shortC (t0 t1 ax ay bx by' : Int) (w : World) :
    Calls Try.prog 41 #[.agg #[.int .i64 t0, .int .i64 t1, .int .i64 ax, .int .i64 ay, .int .i64 bx, .int .i64 by']] w fun e w' => e = .returned (.agg #[.int .i64 t0, .int .i64 (sh t0 t1), .int .i64 ax, .int .i64 ay, .int .i64 bx, .int .i64 by']) ∧ Below w.heap.size w w' := by
  by_cases h1 : 0 ≤ t0
  · by_cases h2 : wrap64 (t0 + 300) < t1
    · by_cases h3 : t1 ≤ 200000
      · have he : sh t0 t1 = wrap64 (t0 + 300) := if_pos ⟨h1, h2, h3⟩
        have HE := Lib.hid he; clear he
        go_enter Try.func41, Try.ntmps41
        go_wp2_with fail
        rw [HE.out]
        exact bodyPost_ret (v := .agg #[.int .i64 t0, .int .i64 (wrap64 (t0 + 300)), .int .i64 ax, .int .i64 ay, .int .i64 bx, .int .i64 by']) (by simp [results, Try.results41, go_sem]) rfl ⟨rfl, b_alloc (b_alloc (Below.refl _ _) _) _⟩
      · have he : sh t0 t1 = t1 := if_neg (fun e => h3 e.2.2)
        have HE := Lib.hid he; clear he
        go_enter Try.func41, Try.ntmps41
        go_wp2_with fail
        rw [HE.out]
        exact bodyPost_ret (v := .agg #[.int .i64 t0, .int .i64 t1, .int .i64 ax, .int .i64 ay, .int .i64 bx, .int .i64 by']) (by simp [results, Try.results41, go_sem]) rfl ⟨rfl, b_alloc (b_alloc (Below.refl _ _) _) _⟩
    · have he : sh t0 t1 = t1 := if_neg (fun e => h2 e.2.1)
      have HE := Lib.hid he; clear he
      go_enter Try.func41, Try.ntmps41
      go_wp2_with fail
      rw [HE.out]
      exact bodyPost_ret (v := .agg #[.int .i64 t0, .int .i64 t1, .int .i64 ax, .int .i64 ay, .int .i64 bx, .int .i64 by']) (by simp [results, Try.results41, go_sem]) rfl ⟨rfl, b_alloc (b_alloc (Below.refl _ _) _) _⟩
  · have he : sh t0 t1 = t1 := if_neg (fun e => h1 e.1)
    have HE := Lib.hid he; clear he
    go_enter Try.func41, Try.ntmps41
    go_wp2_with fail
    rw [HE.out]
    exact bodyPost_ret (v := .agg #[.int .i64 t0, .int .i64 t1, .int .i64 ax, .int .i64 ay, .int .i64 bx, .int .i64 by']) (by simp [results, Try.results41, go_sem]) rfl ⟨rfl, b_alloc (b_alloc (Below.refl _ _) _) _⟩
theorem tri_cases {m0 m1 max may mbx mby n0 n1 nax nay nbx nby : Int} (hm : mok m0 m1 max may mbx mby) (hn : mok n0 n1 nax nay nbx nby) : ∃ lo hi : Int, (if m0 < n0 then n0 else m0) = lo ∧ (if n1 < m1 then n1 else m1) = hi ∧ m0 ≤ lo ∧ n0 ≤ lo ∧ hi ≤ m1 ∧ hi ≤ n1 ∧ (lo = m0 ∨ lo = n0) ∧ (hi = m1 ∨ hi = n1) := by
  refine ⟨if m0 < n0 then n0 else m0, if n1 < m1 then n1 else m1, rfl, rfl, ?_⟩
  clear hm hn
  split <;> split <;> (refine ⟨?_, ?_, ?_, ?_, ?_, ?_⟩ <;> omega)
end Motion
end Go.Proofs.Ytaephikebeaibaa
