/- MotionLeast answers true for all motions and numbers. -/
import Derived.Test.YtaephikebeaibaaMotion
import Derived.Deep.RegionWith
import Derived.Deep.DeepCutAuto
namespace Go.Proofs.Ytaephikebeaibaa
open Go.RowKit
namespace MotionLeast
open Kit Plane Motion
set_option maxHeartbeats 1000000 in
theorem bad (m0 m1 max may mbx mby n0 n1 nax nay nbx nby M1 N1 t E : Int) (w : World) (SM : Hid (∀ w : World, Calls Try.prog 41 #[.agg #[.int .i64 m0, .int .i64 m1, .int .i64 max, .int .i64 may, .int .i64 mbx, .int .i64 mby]] w fun e w' => e = .returned (.agg #[.int .i64 m0, .int .i64 M1, .int .i64 max, .int .i64 may, .int .i64 mbx, .int .i64 mby]) ∧ Below w.heap.size w w')) (SN : Hid (∀ w : World, Calls Try.prog 41 #[.agg #[.int .i64 n0, .int .i64 n1, .int .i64 nax, .int .i64 nay, .int .i64 nbx, .int .i64 nby]] w fun e w' => e = .returned (.agg #[.int .i64 n0, .int .i64 N1, .int .i64 nax, .int .i64 nay, .int .i64 nbx, .int .i64 nby]) ∧ Below w.heap.size w w')) (L1 : Hid (LC m0 M1 max may mbx mby n0 N1 nax nay nbx nby 0 0 E)) (hE1 : (E == 0) = false) (hE2 : (E != 0) = true) :
    Calls Try.prog 12 #[.agg #[.int .i64 m0, .int .i64 m1, .int .i64 max, .int .i64 may, .int .i64 mbx, .int .i64 mby], .agg #[.int .i64 n0, .int .i64 n1, .int .i64 nax, .int .i64 nay, .int .i64 nbx, .int .i64 nby], .int .i64 t] w fun e w' => e = .returned (.bool true) ∧ Below w.heap.size w w' := by
  go_enter Try.func12, Try.ntmps12
  go_wp2_with fail
  have hw0 : Below w.heap.size w ((w.alloc (.cells #[.int .i64 m0, .int .i64 m1, .int .i64 max, .int .i64 may, .int .i64 mbx, .int .i64 mby] 55)).alloc (.cells #[.int .i64 n0, .int .i64 n1, .int .i64 nax, .int .i64 nay, .int .i64 nbx, .int .i64 nby] 55)) := b_alloc (b_alloc (Below.refl _ _) _) _
  have hm0 := m6_alloc (.cells #[.int .i64 n0, .int .i64 n1, .int .i64 nax, .int .i64 nay, .int .i64 nbx, .int .i64 nby] 55) (m6_new w 55 m0 m1 max may mbx mby)
  have hn0 := m6_new1 w (.cells #[.int .i64 m0, .int .i64 m1, .int .i64 max, .int .i64 may, .int .i64 mbx, .int .i64 mby] 55) 55 n0 n1 nax nay nbx nby
  have fm0 := f6_keep (b_alloc (Below.refl _ _) (.cells #[.int .i64 n0, .int .i64 n1, .int .i64 nax, .int .i64 nay, .int .i64 nbx, .int .i64 nby] 55)) (m6_new w 55 m0 m1 max may mbx mby) (f6_new w 55 m0 m1 max may mbx mby)
  have fn0 := f6_new1 w (.cells #[.int .i64 m0, .int .i64 m1, .int .i64 max, .int .i64 may, .int .i64 mbx, .int .i64 mby] 55) 55 n0 n1 nax nay nbx nby
  have HM := Lib.hid hm0; have HN := Lib.hid hn0; have FM := Lib.hid fm0; have FN := Lib.hid fn0; have HW := Lib.hid hw0
  clear hm0 hn0 fm0 fn0 hw0
  go_region_with (first
    | (go_at_call 41; (with_reducible refine (SM.out _).mono ?_); rintro e w1 ⟨rfl, hb⟩; have hw := b_next (b_drew HW.out) hb; have hm := m6_keep hb HM.out; have hn := m6_keep hb HN.out; have fm := f6_keep hb HM.out FM.out; have fn := f6_keep hb HN.out FN.out; clear hb)
    | (go_at_call 41; (with_reducible refine (SN.out _).mono ?_); rintro e w2 ⟨rfl, hb⟩; first
        | (have hw2 := b_next hw hb; have hm2 := m6_keep hb hm; have hn2 := m6_keep hb hn; have fm2 := f6_keep hb hm fm; have fn2 := f6_keep hb hn fn; clear hb)
        | (have hw2 := b_next (b_set6 _ _ _ _ _ _ (Nat.le_refl _) hw) hb; have hm2 := m6_keep hb (m6_set m0 M1 max may mbx mby hm); have hn2 := m6_keep hb (m6_far6 _ _ _ _ _ _ (by omega) hn); have fm2 := f6_keep hb (m6_set m0 M1 max may mbx mby hm) (f6_set6 _ _ _ _ _ _ fm); have fn2 := f6_keep hb (m6_far6 _ _ _ _ _ _ (by omega) hn) (f6_set6 _ _ _ _ _ _ fn); clear hb)))
  all_goals
    have Hw := Lib.hid (b_set6 (c := w.heap.size + 1) (.int .i64 n0) (.int .i64 N1) (.int .i64 nax) (.int .i64 nay) (.int .i64 nbx) (.int .i64 nby) (Nat.le_succ _) (b_set6 (c := w.heap.size) (.int .i64 m0) (.int .i64 M1) (.int .i64 max) (.int .i64 may) (.int .i64 mbx) (.int .i64 mby) (Nat.le_refl _) hw2))
    have Hm := Lib.hid (m6_far6 (c := w.heap.size + 1) (.int .i64 n0) (.int .i64 N1) (.int .i64 nax) (.int .i64 nay) (.int .i64 nbx) (.int .i64 nby) (by omega) (m6_set m0 M1 max may mbx mby hm2))
    have Hn := Lib.hid (m6_set n0 N1 nax nay nbx nby (m6_far6 (c := w.heap.size) (.int .i64 m0) (.int .i64 M1) (.int .i64 max) (.int .i64 may) (.int .i64 mbx) (.int .i64 mby) (by omega) hn2))
    clear HM HN FM FN HW hw hm hn fm fn hw2 hm2 hn2 fm2 fn2
    go_wp2_with fail
    refine (motionWorks _).mono ?_; rintro e w3 ⟨rfl, hb⟩
    have hw := b_next Hw.out hb; have hm := m6_keep hb Hm.out; have hn := m6_keep hb Hn.out
    clear hb Hw Hm Hn
    go_wp2_with fail
    refine (L1.out _).mono ?_; rintro e w4 ⟨rfl, hb⟩
    replace hw := b_next hw hb
    replace hm := m6_keep hb hm
    replace hn := m6_keep hb hn
    clear hb
    go_wp2_with fail
    go_ret
    exact ⟨rfl, hw⟩
set_option maxHeartbeats 1000000 in
theorem first_out (m0 m1 max may mbx mby n0 n1 nax nay nbx nby M1 N1 t s q ax ay bx by' T E xx xy yx yy E2 : Int) (w : World) (SM : Hid (∀ w : World, Calls Try.prog 41 #[.agg #[.int .i64 m0, .int .i64 m1, .int .i64 max, .int .i64 may, .int .i64 mbx, .int .i64 mby]] w fun e w' => e = .returned (.agg #[.int .i64 m0, .int .i64 M1, .int .i64 max, .int .i64 may, .int .i64 mbx, .int .i64 mby]) ∧ Below w.heap.size w w')) (SN : Hid (∀ w : World, Calls Try.prog 41 #[.agg #[.int .i64 n0, .int .i64 n1, .int .i64 nax, .int .i64 nay, .int .i64 nbx, .int .i64 nby]] w fun e w' => e = .returned (.agg #[.int .i64 n0, .int .i64 N1, .int .i64 nax, .int .i64 nay, .int .i64 nbx, .int .i64 nby]) ∧ Below w.heap.size w w')) (L1 : Hid (LC m0 M1 max may mbx mby n0 N1 nax nay nbx nby s q 0)) (A1 : Hid (AT m0 M1 max may mbx mby q ax ay 0)) (A2 : Hid (AT n0 N1 nax nay nbx nby q bx by' 0)) (S1 : Hid (∀ w : World, Calls Try.prog 18 #[.agg #[.int .i64 ax, .int .i64 ay], .agg #[.int .i64 bx, .int .i64 by']] w fun e w' => e = .returned (.int .i64 s) ∧ Below w.heap.size w w')) (hm0 : 0 ≤ m0 ∧ m0 ≤ 200000) (b1 : -299 ≤ t.tmod 300 ∧ t.tmod 300 ≤ 299) (ht : m0 + t.tmod 300 % 300 = T) (A3 : Hid (AT m0 M1 max may mbx mby T xx xy E)) (A4 : Hid (AT n0 N1 nax nay nbx nby T yx yy E2)) (hE1 : (E == 0) = false) (hE2 : (E != 0) = true) :
    Calls Try.prog 12 #[.agg #[.int .i64 m0, .int .i64 m1, .int .i64 max, .int .i64 may, .int .i64 mbx, .int .i64 mby], .agg #[.int .i64 n0, .int .i64 n1, .int .i64 nax, .int .i64 nay, .int .i64 nbx, .int .i64 nby], .int .i64 t] w fun e w' => e = .returned (.bool true) ∧ Below w.heap.size w w' := by
  go_enter Try.func12, Try.ntmps12
  go_wp2_with fail
  have hw0 : Below w.heap.size w ((w.alloc (.cells #[.int .i64 m0, .int .i64 m1, .int .i64 max, .int .i64 may, .int .i64 mbx, .int .i64 mby] 55)).alloc (.cells #[.int .i64 n0, .int .i64 n1, .int .i64 nax, .int .i64 nay, .int .i64 nbx, .int .i64 nby] 55)) := b_alloc (b_alloc (Below.refl _ _) _) _
  have hm0 := m6_alloc (.cells #[.int .i64 n0, .int .i64 n1, .int .i64 nax, .int .i64 nay, .int .i64 nbx, .int .i64 nby] 55) (m6_new w 55 m0 m1 max may mbx mby)
  have hn0 := m6_new1 w (.cells #[.int .i64 m0, .int .i64 m1, .int .i64 max, .int .i64 may, .int .i64 mbx, .int .i64 mby] 55) 55 n0 n1 nax nay nbx nby
  have fm0 := f6_keep (b_alloc (Below.refl _ _) (.cells #[.int .i64 n0, .int .i64 n1, .int .i64 nax, .int .i64 nay, .int .i64 nbx, .int .i64 nby] 55)) (m6_new w 55 m0 m1 max may mbx mby) (f6_new w 55 m0 m1 max may mbx mby)
  have fn0 := f6_new1 w (.cells #[.int .i64 m0, .int .i64 m1, .int .i64 max, .int .i64 may, .int .i64 mbx, .int .i64 mby] 55) 55 n0 n1 nax nay nbx nby
  have HM := Lib.hid hm0; have HN := Lib.hid hn0; have FM := Lib.hid fm0; have FN := Lib.hid fn0; have HW := Lib.hid hw0
  clear hm0 hn0 fm0 fn0 hw0
  go_region_with (first
    | (go_at_call 41; (with_reducible refine (SM.out _).mono ?_); rintro e w1 ⟨rfl, hb⟩; have hw := b_next (b_drew HW.out) hb; have hm := m6_keep hb HM.out; have hn := m6_keep hb HN.out; have fm := f6_keep hb HM.out FM.out; have fn := f6_keep hb HN.out FN.out; clear hb)
    | (go_at_call 41; (with_reducible refine (SN.out _).mono ?_); rintro e w2 ⟨rfl, hb⟩; first
        | (have hw2 := b_next hw hb; have hm2 := m6_keep hb hm; have hn2 := m6_keep hb hn; have fm2 := f6_keep hb hm fm; have fn2 := f6_keep hb hn fn; clear hb)
        | (have hw2 := b_next (b_set6 _ _ _ _ _ _ (Nat.le_refl _) hw) hb; have hm2 := m6_keep hb (m6_set m0 M1 max may mbx mby hm); have hn2 := m6_keep hb (m6_far6 _ _ _ _ _ _ (by omega) hn); have fm2 := f6_keep hb (m6_set m0 M1 max may mbx mby hm) (f6_set6 _ _ _ _ _ _ fm); have fn2 := f6_keep hb (m6_far6 _ _ _ _ _ _ (by omega) hn) (f6_set6 _ _ _ _ _ _ fn); clear hb)))
  all_goals
    have Hw := Lib.hid (b_set6 (c := w.heap.size + 1) (.int .i64 n0) (.int .i64 N1) (.int .i64 nax) (.int .i64 nay) (.int .i64 nbx) (.int .i64 nby) (Nat.le_succ _) (b_set6 (c := w.heap.size) (.int .i64 m0) (.int .i64 M1) (.int .i64 max) (.int .i64 may) (.int .i64 mbx) (.int .i64 mby) (Nat.le_refl _) hw2))
    have Hm := Lib.hid (m6_far6 (c := w.heap.size + 1) (.int .i64 n0) (.int .i64 N1) (.int .i64 nax) (.int .i64 nay) (.int .i64 nbx) (.int .i64 nby) (by omega) (m6_set m0 M1 max may mbx mby hm2))
    have Hn := Lib.hid (m6_set n0 N1 nax nay nbx nby (m6_far6 (c := w.heap.size) (.int .i64 m0) (.int .i64 M1) (.int .i64 max) (.int .i64 may) (.int .i64 mbx) (.int .i64 mby) (by omega) hn2))
    clear HM HN FM FN HW hw hm hn fm fn hw2 hm2 hn2 fm2 fn2
    go_wp2_with fail
    refine (motionWorks _).mono ?_; rintro e w3 ⟨rfl, hb⟩
    have hw := b_next Hw.out hb; have hm := m6_keep hb Hm.out; have hn := m6_keep hb Hn.out
    clear hb Hw Hm Hn
    go_wp2_with fail
    refine (L1.out _).mono ?_; rintro e w4 ⟨rfl, hb⟩
    replace hw := b_next hw hb
    replace hm := m6_keep hb hm
    replace hn := m6_keep hb hn
    clear hb
    go_wp2_with fail
    refine (A1.out _).mono ?_; rintro e w4 ⟨rfl, hb⟩
    replace hw := b_alloc (b_next hw hb) (.cells #[.int .i64 ax, .int .i64 ay] 23)
    replace hm := m6_alloc (.cells #[.int .i64 ax, .int .i64 ay] 23) (m6_keep hb hm)
    replace hn := m6_alloc (.cells #[.int .i64 ax, .int .i64 ay] 23) (m6_keep hb hn)
    have pa := p2_new w4 23 ax ay
    clear hb
    go_wp2_with fail
    refine (A2.out _).mono ?_; rintro e w4 ⟨rfl, hb⟩
    replace hw := b_alloc (b_next hw hb) (.cells #[.int .i64 bx, .int .i64 by'] 23)
    replace hm := m6_alloc (.cells #[.int .i64 bx, .int .i64 by'] 23) (m6_keep hb hm)
    replace hn := m6_alloc (.cells #[.int .i64 bx, .int .i64 by'] 23) (m6_keep hb hn)
    replace pa := p2_alloc (.cells #[.int .i64 bx, .int .i64 by'] 23) (p2_keep hb pa)
    have pb := p2_new w4 23 bx by'
    clear hb
    go_wp2_with fail
    refine (S1.out _).mono ?_; rintro e w4 ⟨rfl, hb⟩
    replace hw := b_next hw hb
    replace hm := m6_keep hb hm
    replace hn := m6_keep hb hn
    clear hb
    clear pa pb
    go_wp2_with fail
    refine (A3.out _).mono ?_; rintro e w4 ⟨rfl, hb⟩
    replace hw := b_alloc (b_next hw hb) (.cells #[.int .i64 xx, .int .i64 xy] 23)
    replace hm := m6_alloc (.cells #[.int .i64 xx, .int .i64 xy] 23) (m6_keep hb hm)
    replace hn := m6_alloc (.cells #[.int .i64 xx, .int .i64 xy] 23) (m6_keep hb hn)
    have px := p2_new w4 23 xx xy
    clear hb
    go_wp2_with fail
    refine (A4.out _).mono ?_; rintro e w4 ⟨rfl, hb⟩
    replace hw := b_alloc (b_next hw hb) (.cells #[.int .i64 yx, .int .i64 yy] 23)
    replace hm := m6_alloc (.cells #[.int .i64 yx, .int .i64 yy] 23) (m6_keep hb hm)
    have py := p2_new w4 23 yx yy
    clear hb
    go_wp2_with fail
    go_ret
    exact ⟨rfl, hw⟩
set_option maxHeartbeats 1000000 in
theorem second_out (m0 m1 max may mbx mby n0 n1 nax nay nbx nby M1 N1 t s q ax ay bx by' T xx xy yx yy E2 : Int) (w : World) (SM : Hid (∀ w : World, Calls Try.prog 41 #[.agg #[.int .i64 m0, .int .i64 m1, .int .i64 max, .int .i64 may, .int .i64 mbx, .int .i64 mby]] w fun e w' => e = .returned (.agg #[.int .i64 m0, .int .i64 M1, .int .i64 max, .int .i64 may, .int .i64 mbx, .int .i64 mby]) ∧ Below w.heap.size w w')) (SN : Hid (∀ w : World, Calls Try.prog 41 #[.agg #[.int .i64 n0, .int .i64 n1, .int .i64 nax, .int .i64 nay, .int .i64 nbx, .int .i64 nby]] w fun e w' => e = .returned (.agg #[.int .i64 n0, .int .i64 N1, .int .i64 nax, .int .i64 nay, .int .i64 nbx, .int .i64 nby]) ∧ Below w.heap.size w w')) (L1 : Hid (LC m0 M1 max may mbx mby n0 N1 nax nay nbx nby s q 0)) (A1 : Hid (AT m0 M1 max may mbx mby q ax ay 0)) (A2 : Hid (AT n0 N1 nax nay nbx nby q bx by' 0)) (S1 : Hid (∀ w : World, Calls Try.prog 18 #[.agg #[.int .i64 ax, .int .i64 ay], .agg #[.int .i64 bx, .int .i64 by']] w fun e w' => e = .returned (.int .i64 s) ∧ Below w.heap.size w w')) (hm0 : 0 ≤ m0 ∧ m0 ≤ 200000) (b1 : -299 ≤ t.tmod 300 ∧ t.tmod 300 ≤ 299) (ht : m0 + t.tmod 300 % 300 = T) (A3 : Hid (AT m0 M1 max may mbx mby T xx xy 0)) (A4 : Hid (AT n0 N1 nax nay nbx nby T yx yy E2)) (hE1 : (E2 == 0) = false) (hE2 : (E2 != 0) = true) :
    Calls Try.prog 12 #[.agg #[.int .i64 m0, .int .i64 m1, .int .i64 max, .int .i64 may, .int .i64 mbx, .int .i64 mby], .agg #[.int .i64 n0, .int .i64 n1, .int .i64 nax, .int .i64 nay, .int .i64 nbx, .int .i64 nby], .int .i64 t] w fun e w' => e = .returned (.bool true) ∧ Below w.heap.size w w' := by
  go_enter Try.func12, Try.ntmps12
  go_wp2_with fail
  have hw0 : Below w.heap.size w ((w.alloc (.cells #[.int .i64 m0, .int .i64 m1, .int .i64 max, .int .i64 may, .int .i64 mbx, .int .i64 mby] 55)).alloc (.cells #[.int .i64 n0, .int .i64 n1, .int .i64 nax, .int .i64 nay, .int .i64 nbx, .int .i64 nby] 55)) := b_alloc (b_alloc (Below.refl _ _) _) _
  have hm0 := m6_alloc (.cells #[.int .i64 n0, .int .i64 n1, .int .i64 nax, .int .i64 nay, .int .i64 nbx, .int .i64 nby] 55) (m6_new w 55 m0 m1 max may mbx mby)
  have hn0 := m6_new1 w (.cells #[.int .i64 m0, .int .i64 m1, .int .i64 max, .int .i64 may, .int .i64 mbx, .int .i64 mby] 55) 55 n0 n1 nax nay nbx nby
  have fm0 := f6_keep (b_alloc (Below.refl _ _) (.cells #[.int .i64 n0, .int .i64 n1, .int .i64 nax, .int .i64 nay, .int .i64 nbx, .int .i64 nby] 55)) (m6_new w 55 m0 m1 max may mbx mby) (f6_new w 55 m0 m1 max may mbx mby)
  have fn0 := f6_new1 w (.cells #[.int .i64 m0, .int .i64 m1, .int .i64 max, .int .i64 may, .int .i64 mbx, .int .i64 mby] 55) 55 n0 n1 nax nay nbx nby
  have HM := Lib.hid hm0; have HN := Lib.hid hn0; have FM := Lib.hid fm0; have FN := Lib.hid fn0; have HW := Lib.hid hw0
  clear hm0 hn0 fm0 fn0 hw0
  go_region_with (first
    | (go_at_call 41; (with_reducible refine (SM.out _).mono ?_); rintro e w1 ⟨rfl, hb⟩; have hw := b_next (b_drew HW.out) hb; have hm := m6_keep hb HM.out; have hn := m6_keep hb HN.out; have fm := f6_keep hb HM.out FM.out; have fn := f6_keep hb HN.out FN.out; clear hb)
    | (go_at_call 41; (with_reducible refine (SN.out _).mono ?_); rintro e w2 ⟨rfl, hb⟩; first
        | (have hw2 := b_next hw hb; have hm2 := m6_keep hb hm; have hn2 := m6_keep hb hn; have fm2 := f6_keep hb hm fm; have fn2 := f6_keep hb hn fn; clear hb)
        | (have hw2 := b_next (b_set6 _ _ _ _ _ _ (Nat.le_refl _) hw) hb; have hm2 := m6_keep hb (m6_set m0 M1 max may mbx mby hm); have hn2 := m6_keep hb (m6_far6 _ _ _ _ _ _ (by omega) hn); have fm2 := f6_keep hb (m6_set m0 M1 max may mbx mby hm) (f6_set6 _ _ _ _ _ _ fm); have fn2 := f6_keep hb (m6_far6 _ _ _ _ _ _ (by omega) hn) (f6_set6 _ _ _ _ _ _ fn); clear hb)))
  all_goals
    have Hw := Lib.hid (b_set6 (c := w.heap.size + 1) (.int .i64 n0) (.int .i64 N1) (.int .i64 nax) (.int .i64 nay) (.int .i64 nbx) (.int .i64 nby) (Nat.le_succ _) (b_set6 (c := w.heap.size) (.int .i64 m0) (.int .i64 M1) (.int .i64 max) (.int .i64 may) (.int .i64 mbx) (.int .i64 mby) (Nat.le_refl _) hw2))
    have Hm := Lib.hid (m6_far6 (c := w.heap.size + 1) (.int .i64 n0) (.int .i64 N1) (.int .i64 nax) (.int .i64 nay) (.int .i64 nbx) (.int .i64 nby) (by omega) (m6_set m0 M1 max may mbx mby hm2))
    have Hn := Lib.hid (m6_set n0 N1 nax nay nbx nby (m6_far6 (c := w.heap.size) (.int .i64 m0) (.int .i64 M1) (.int .i64 max) (.int .i64 may) (.int .i64 mbx) (.int .i64 mby) (by omega) hn2))
    clear HM HN FM FN HW hw hm hn fm fn hw2 hm2 hn2 fm2 fn2
    go_wp2_with fail
    refine (motionWorks _).mono ?_; rintro e w3 ⟨rfl, hb⟩
    have hw := b_next Hw.out hb; have hm := m6_keep hb Hm.out; have hn := m6_keep hb Hn.out
    clear hb Hw Hm Hn
    go_wp2_with fail
    refine (L1.out _).mono ?_; rintro e w4 ⟨rfl, hb⟩
    replace hw := b_next hw hb
    replace hm := m6_keep hb hm
    replace hn := m6_keep hb hn
    clear hb
    go_wp2_with fail
    refine (A1.out _).mono ?_; rintro e w4 ⟨rfl, hb⟩
    replace hw := b_alloc (b_next hw hb) (.cells #[.int .i64 ax, .int .i64 ay] 23)
    replace hm := m6_alloc (.cells #[.int .i64 ax, .int .i64 ay] 23) (m6_keep hb hm)
    replace hn := m6_alloc (.cells #[.int .i64 ax, .int .i64 ay] 23) (m6_keep hb hn)
    have pa := p2_new w4 23 ax ay
    clear hb
    go_wp2_with fail
    refine (A2.out _).mono ?_; rintro e w4 ⟨rfl, hb⟩
    replace hw := b_alloc (b_next hw hb) (.cells #[.int .i64 bx, .int .i64 by'] 23)
    replace hm := m6_alloc (.cells #[.int .i64 bx, .int .i64 by'] 23) (m6_keep hb hm)
    replace hn := m6_alloc (.cells #[.int .i64 bx, .int .i64 by'] 23) (m6_keep hb hn)
    replace pa := p2_alloc (.cells #[.int .i64 bx, .int .i64 by'] 23) (p2_keep hb pa)
    have pb := p2_new w4 23 bx by'
    clear hb
    go_wp2_with fail
    refine (S1.out _).mono ?_; rintro e w4 ⟨rfl, hb⟩
    replace hw := b_next hw hb
    replace hm := m6_keep hb hm
    replace hn := m6_keep hb hn
    clear hb
    clear pa pb
    go_wp2_with fail
    refine (A3.out _).mono ?_; rintro e w4 ⟨rfl, hb⟩
    replace hw := b_alloc (b_next hw hb) (.cells #[.int .i64 xx, .int .i64 xy] 23)
    replace hm := m6_alloc (.cells #[.int .i64 xx, .int .i64 xy] 23) (m6_keep hb hm)
    replace hn := m6_alloc (.cells #[.int .i64 xx, .int .i64 xy] 23) (m6_keep hb hn)
    have px := p2_new w4 23 xx xy
    clear hb
    go_wp2_with fail
    refine (A4.out _).mono ?_; rintro e w4 ⟨rfl, hb⟩
    replace hw := b_alloc (b_next hw hb) (.cells #[.int .i64 yx, .int .i64 yy] 23)
    replace hm := m6_alloc (.cells #[.int .i64 yx, .int .i64 yy] 23) (m6_keep hb hm)
    have py := p2_new w4 23 yx yy
    clear hb
    go_wp2_with fail
    go_ret
    exact ⟨rfl, hw⟩
set_option maxHeartbeats 1000000 in
theorem more (m0 m1 max may mbx mby n0 n1 nax nay nbx nby M1 N1 t s q ax ay bx by' T xx xy yx yy r : Int) (w : World) (SM : Hid (∀ w : World, Calls Try.prog 41 #[.agg #[.int .i64 m0, .int .i64 m1, .int .i64 max, .int .i64 may, .int .i64 mbx, .int .i64 mby]] w fun e w' => e = .returned (.agg #[.int .i64 m0, .int .i64 M1, .int .i64 max, .int .i64 may, .int .i64 mbx, .int .i64 mby]) ∧ Below w.heap.size w w')) (SN : Hid (∀ w : World, Calls Try.prog 41 #[.agg #[.int .i64 n0, .int .i64 n1, .int .i64 nax, .int .i64 nay, .int .i64 nbx, .int .i64 nby]] w fun e w' => e = .returned (.agg #[.int .i64 n0, .int .i64 N1, .int .i64 nax, .int .i64 nay, .int .i64 nbx, .int .i64 nby]) ∧ Below w.heap.size w w')) (L1 : Hid (LC m0 M1 max may mbx mby n0 N1 nax nay nbx nby s q 0)) (A1 : Hid (AT m0 M1 max may mbx mby q ax ay 0)) (A2 : Hid (AT n0 N1 nax nay nbx nby q bx by' 0)) (S1 : Hid (∀ w : World, Calls Try.prog 18 #[.agg #[.int .i64 ax, .int .i64 ay], .agg #[.int .i64 bx, .int .i64 by']] w fun e w' => e = .returned (.int .i64 s) ∧ Below w.heap.size w w')) (hm0 : 0 ≤ m0 ∧ m0 ≤ 200000) (b1 : -299 ≤ t.tmod 300 ∧ t.tmod 300 ≤ 299) (ht : m0 + t.tmod 300 % 300 = T) (A3 : Hid (AT m0 M1 max may mbx mby T xx xy 0)) (A4 : Hid (AT n0 N1 nax nay nbx nby T yx yy 0)) (S2 : Hid (∀ w : World, Calls Try.prog 18 #[.agg #[.int .i64 xx, .int .i64 xy], .agg #[.int .i64 yx, .int .i64 yy]] w fun e w' => e = .returned (.int .i64 r) ∧ Below w.heap.size w w')) (hr : s < r) :
    Calls Try.prog 12 #[.agg #[.int .i64 m0, .int .i64 m1, .int .i64 max, .int .i64 may, .int .i64 mbx, .int .i64 mby], .agg #[.int .i64 n0, .int .i64 n1, .int .i64 nax, .int .i64 nay, .int .i64 nbx, .int .i64 nby], .int .i64 t] w fun e w' => e = .returned (.bool true) ∧ Below w.heap.size w w' := by
  go_enter Try.func12, Try.ntmps12
  go_wp2_with fail
  have hw0 : Below w.heap.size w ((w.alloc (.cells #[.int .i64 m0, .int .i64 m1, .int .i64 max, .int .i64 may, .int .i64 mbx, .int .i64 mby] 55)).alloc (.cells #[.int .i64 n0, .int .i64 n1, .int .i64 nax, .int .i64 nay, .int .i64 nbx, .int .i64 nby] 55)) := b_alloc (b_alloc (Below.refl _ _) _) _
  have hm0 := m6_alloc (.cells #[.int .i64 n0, .int .i64 n1, .int .i64 nax, .int .i64 nay, .int .i64 nbx, .int .i64 nby] 55) (m6_new w 55 m0 m1 max may mbx mby)
  have hn0 := m6_new1 w (.cells #[.int .i64 m0, .int .i64 m1, .int .i64 max, .int .i64 may, .int .i64 mbx, .int .i64 mby] 55) 55 n0 n1 nax nay nbx nby
  have fm0 := f6_keep (b_alloc (Below.refl _ _) (.cells #[.int .i64 n0, .int .i64 n1, .int .i64 nax, .int .i64 nay, .int .i64 nbx, .int .i64 nby] 55)) (m6_new w 55 m0 m1 max may mbx mby) (f6_new w 55 m0 m1 max may mbx mby)
  have fn0 := f6_new1 w (.cells #[.int .i64 m0, .int .i64 m1, .int .i64 max, .int .i64 may, .int .i64 mbx, .int .i64 mby] 55) 55 n0 n1 nax nay nbx nby
  have HM := Lib.hid hm0; have HN := Lib.hid hn0; have FM := Lib.hid fm0; have FN := Lib.hid fn0; have HW := Lib.hid hw0
  clear hm0 hn0 fm0 fn0 hw0
  go_region_with (first
    | (go_at_call 41; (with_reducible refine (SM.out _).mono ?_); rintro e w1 ⟨rfl, hb⟩; have hw := b_next (b_drew HW.out) hb; have hm := m6_keep hb HM.out; have hn := m6_keep hb HN.out; have fm := f6_keep hb HM.out FM.out; have fn := f6_keep hb HN.out FN.out; clear hb)
    | (go_at_call 41; (with_reducible refine (SN.out _).mono ?_); rintro e w2 ⟨rfl, hb⟩; first
        | (have hw2 := b_next hw hb; have hm2 := m6_keep hb hm; have hn2 := m6_keep hb hn; have fm2 := f6_keep hb hm fm; have fn2 := f6_keep hb hn fn; clear hb)
        | (have hw2 := b_next (b_set6 _ _ _ _ _ _ (Nat.le_refl _) hw) hb; have hm2 := m6_keep hb (m6_set m0 M1 max may mbx mby hm); have hn2 := m6_keep hb (m6_far6 _ _ _ _ _ _ (by omega) hn); have fm2 := f6_keep hb (m6_set m0 M1 max may mbx mby hm) (f6_set6 _ _ _ _ _ _ fm); have fn2 := f6_keep hb (m6_far6 _ _ _ _ _ _ (by omega) hn) (f6_set6 _ _ _ _ _ _ fn); clear hb)))
  all_goals
    have Hw := Lib.hid (b_set6 (c := w.heap.size + 1) (.int .i64 n0) (.int .i64 N1) (.int .i64 nax) (.int .i64 nay) (.int .i64 nbx) (.int .i64 nby) (Nat.le_succ _) (b_set6 (c := w.heap.size) (.int .i64 m0) (.int .i64 M1) (.int .i64 max) (.int .i64 may) (.int .i64 mbx) (.int .i64 mby) (Nat.le_refl _) hw2))
    have Hm := Lib.hid (m6_far6 (c := w.heap.size + 1) (.int .i64 n0) (.int .i64 N1) (.int .i64 nax) (.int .i64 nay) (.int .i64 nbx) (.int .i64 nby) (by omega) (m6_set m0 M1 max may mbx mby hm2))
    have Hn := Lib.hid (m6_set n0 N1 nax nay nbx nby (m6_far6 (c := w.heap.size) (.int .i64 m0) (.int .i64 M1) (.int .i64 max) (.int .i64 may) (.int .i64 mbx) (.int .i64 mby) (by omega) hn2))
    clear HM HN FM FN HW hw hm hn fm fn hw2 hm2 hn2 fm2 fn2
    go_wp2_with fail
    refine (motionWorks _).mono ?_; rintro e w3 ⟨rfl, hb⟩
    have hw := b_next Hw.out hb; have hm := m6_keep hb Hm.out; have hn := m6_keep hb Hn.out
    clear hb Hw Hm Hn
    go_wp2_with fail
    refine (L1.out _).mono ?_; rintro e w4 ⟨rfl, hb⟩
    replace hw := b_next hw hb
    replace hm := m6_keep hb hm
    replace hn := m6_keep hb hn
    clear hb
    go_wp2_with fail
    refine (A1.out _).mono ?_; rintro e w4 ⟨rfl, hb⟩
    replace hw := b_alloc (b_next hw hb) (.cells #[.int .i64 ax, .int .i64 ay] 23)
    replace hm := m6_alloc (.cells #[.int .i64 ax, .int .i64 ay] 23) (m6_keep hb hm)
    replace hn := m6_alloc (.cells #[.int .i64 ax, .int .i64 ay] 23) (m6_keep hb hn)
    have pa := p2_new w4 23 ax ay
    clear hb
    go_wp2_with fail
    refine (A2.out _).mono ?_; rintro e w4 ⟨rfl, hb⟩
    replace hw := b_alloc (b_next hw hb) (.cells #[.int .i64 bx, .int .i64 by'] 23)
    replace hm := m6_alloc (.cells #[.int .i64 bx, .int .i64 by'] 23) (m6_keep hb hm)
    replace hn := m6_alloc (.cells #[.int .i64 bx, .int .i64 by'] 23) (m6_keep hb hn)
    replace pa := p2_alloc (.cells #[.int .i64 bx, .int .i64 by'] 23) (p2_keep hb pa)
    have pb := p2_new w4 23 bx by'
    clear hb
    go_wp2_with fail
    refine (S1.out _).mono ?_; rintro e w4 ⟨rfl, hb⟩
    replace hw := b_next hw hb
    replace hm := m6_keep hb hm
    replace hn := m6_keep hb hn
    clear hb
    clear pa pb
    go_wp2_with fail
    refine (A3.out _).mono ?_; rintro e w4 ⟨rfl, hb⟩
    replace hw := b_alloc (b_next hw hb) (.cells #[.int .i64 xx, .int .i64 xy] 23)
    replace hm := m6_alloc (.cells #[.int .i64 xx, .int .i64 xy] 23) (m6_keep hb hm)
    replace hn := m6_alloc (.cells #[.int .i64 xx, .int .i64 xy] 23) (m6_keep hb hn)
    have px := p2_new w4 23 xx xy
    clear hb
    go_wp2_with fail
    refine (A4.out _).mono ?_; rintro e w4 ⟨rfl, hb⟩
    replace hw := b_alloc (b_next hw hb) (.cells #[.int .i64 yx, .int .i64 yy] 23)
    replace hm := m6_alloc (.cells #[.int .i64 yx, .int .i64 yy] 23) (m6_keep hb hm)
    replace px := p2_alloc (.cells #[.int .i64 yx, .int .i64 yy] 23) (p2_keep hb px)
    have py := p2_new w4 23 yx yy
    clear hb
    go_wp2_with fail
    refine (S2.out _).mono ?_; rintro e w4 ⟨rfl, hb⟩
    replace hw := b_next hw hb
    replace px := p2_keep hb px
    replace py := p2_keep hb py
    clear hb
    go_wp2_with fail
    go_ret
    exact ⟨rfl, hw⟩
set_option maxHeartbeats 1000000 in
theorem same (m0 m1 max may mbx mby n0 n1 nax nay nbx nby M1 N1 t s q ax ay bx by' T xx xy yx yy : Int) (w : World) (SM : Hid (∀ w : World, Calls Try.prog 41 #[.agg #[.int .i64 m0, .int .i64 m1, .int .i64 max, .int .i64 may, .int .i64 mbx, .int .i64 mby]] w fun e w' => e = .returned (.agg #[.int .i64 m0, .int .i64 M1, .int .i64 max, .int .i64 may, .int .i64 mbx, .int .i64 mby]) ∧ Below w.heap.size w w')) (SN : Hid (∀ w : World, Calls Try.prog 41 #[.agg #[.int .i64 n0, .int .i64 n1, .int .i64 nax, .int .i64 nay, .int .i64 nbx, .int .i64 nby]] w fun e w' => e = .returned (.agg #[.int .i64 n0, .int .i64 N1, .int .i64 nax, .int .i64 nay, .int .i64 nbx, .int .i64 nby]) ∧ Below w.heap.size w w')) (L1 : Hid (LC m0 M1 max may mbx mby n0 N1 nax nay nbx nby s q 0)) (A1 : Hid (AT m0 M1 max may mbx mby q ax ay 0)) (A2 : Hid (AT n0 N1 nax nay nbx nby q bx by' 0)) (S1 : Hid (∀ w : World, Calls Try.prog 18 #[.agg #[.int .i64 ax, .int .i64 ay], .agg #[.int .i64 bx, .int .i64 by']] w fun e w' => e = .returned (.int .i64 s) ∧ Below w.heap.size w w')) (hm0 : 0 ≤ m0 ∧ m0 ≤ 200000) (b1 : -299 ≤ t.tmod 300 ∧ t.tmod 300 ≤ 299) (ht : m0 + t.tmod 300 % 300 = T) (A3 : Hid (AT m0 M1 max may mbx mby T xx xy 0)) (A4 : Hid (AT n0 N1 nax nay nbx nby T yx yy 0)) (S2 : Hid (∀ w : World, Calls Try.prog 18 #[.agg #[.int .i64 xx, .int .i64 xy], .agg #[.int .i64 yx, .int .i64 yy]] w fun e w' => e = .returned (.int .i64 s) ∧ Below w.heap.size w w')) (hr : q ≤ T) :
    Calls Try.prog 12 #[.agg #[.int .i64 m0, .int .i64 m1, .int .i64 max, .int .i64 may, .int .i64 mbx, .int .i64 mby], .agg #[.int .i64 n0, .int .i64 n1, .int .i64 nax, .int .i64 nay, .int .i64 nbx, .int .i64 nby], .int .i64 t] w fun e w' => e = .returned (.bool true) ∧ Below w.heap.size w w' := by
  go_enter Try.func12, Try.ntmps12
  go_wp2_with fail
  have hw0 : Below w.heap.size w ((w.alloc (.cells #[.int .i64 m0, .int .i64 m1, .int .i64 max, .int .i64 may, .int .i64 mbx, .int .i64 mby] 55)).alloc (.cells #[.int .i64 n0, .int .i64 n1, .int .i64 nax, .int .i64 nay, .int .i64 nbx, .int .i64 nby] 55)) := b_alloc (b_alloc (Below.refl _ _) _) _
  have hm0 := m6_alloc (.cells #[.int .i64 n0, .int .i64 n1, .int .i64 nax, .int .i64 nay, .int .i64 nbx, .int .i64 nby] 55) (m6_new w 55 m0 m1 max may mbx mby)
  have hn0 := m6_new1 w (.cells #[.int .i64 m0, .int .i64 m1, .int .i64 max, .int .i64 may, .int .i64 mbx, .int .i64 mby] 55) 55 n0 n1 nax nay nbx nby
  have fm0 := f6_keep (b_alloc (Below.refl _ _) (.cells #[.int .i64 n0, .int .i64 n1, .int .i64 nax, .int .i64 nay, .int .i64 nbx, .int .i64 nby] 55)) (m6_new w 55 m0 m1 max may mbx mby) (f6_new w 55 m0 m1 max may mbx mby)
  have fn0 := f6_new1 w (.cells #[.int .i64 m0, .int .i64 m1, .int .i64 max, .int .i64 may, .int .i64 mbx, .int .i64 mby] 55) 55 n0 n1 nax nay nbx nby
  have HM := Lib.hid hm0; have HN := Lib.hid hn0; have FM := Lib.hid fm0; have FN := Lib.hid fn0; have HW := Lib.hid hw0
  clear hm0 hn0 fm0 fn0 hw0
  go_region_with (first
    | (go_at_call 41; (with_reducible refine (SM.out _).mono ?_); rintro e w1 ⟨rfl, hb⟩; have hw := b_next (b_drew HW.out) hb; have hm := m6_keep hb HM.out; have hn := m6_keep hb HN.out; have fm := f6_keep hb HM.out FM.out; have fn := f6_keep hb HN.out FN.out; clear hb)
    | (go_at_call 41; (with_reducible refine (SN.out _).mono ?_); rintro e w2 ⟨rfl, hb⟩; first
        | (have hw2 := b_next hw hb; have hm2 := m6_keep hb hm; have hn2 := m6_keep hb hn; have fm2 := f6_keep hb hm fm; have fn2 := f6_keep hb hn fn; clear hb)
        | (have hw2 := b_next (b_set6 _ _ _ _ _ _ (Nat.le_refl _) hw) hb; have hm2 := m6_keep hb (m6_set m0 M1 max may mbx mby hm); have hn2 := m6_keep hb (m6_far6 _ _ _ _ _ _ (by omega) hn); have fm2 := f6_keep hb (m6_set m0 M1 max may mbx mby hm) (f6_set6 _ _ _ _ _ _ fm); have fn2 := f6_keep hb (m6_far6 _ _ _ _ _ _ (by omega) hn) (f6_set6 _ _ _ _ _ _ fn); clear hb)))
  all_goals
    have Hw := Lib.hid (b_set6 (c := w.heap.size + 1) (.int .i64 n0) (.int .i64 N1) (.int .i64 nax) (.int .i64 nay) (.int .i64 nbx) (.int .i64 nby) (Nat.le_succ _) (b_set6 (c := w.heap.size) (.int .i64 m0) (.int .i64 M1) (.int .i64 max) (.int .i64 may) (.int .i64 mbx) (.int .i64 mby) (Nat.le_refl _) hw2))
    have Hm := Lib.hid (m6_far6 (c := w.heap.size + 1) (.int .i64 n0) (.int .i64 N1) (.int .i64 nax) (.int .i64 nay) (.int .i64 nbx) (.int .i64 nby) (by omega) (m6_set m0 M1 max may mbx mby hm2))
    have Hn := Lib.hid (m6_set n0 N1 nax nay nbx nby (m6_far6 (c := w.heap.size) (.int .i64 m0) (.int .i64 M1) (.int .i64 max) (.int .i64 may) (.int .i64 mbx) (.int .i64 mby) (by omega) hn2))
    clear HM HN FM FN HW hw hm hn fm fn hw2 hm2 hn2 fm2 fn2
    go_wp2_with fail
    refine (motionWorks _).mono ?_; rintro e w3 ⟨rfl, hb⟩
    have hw := b_next Hw.out hb; have hm := m6_keep hb Hm.out; have hn := m6_keep hb Hn.out
    clear hb Hw Hm Hn
    go_wp2_with fail
    refine (L1.out _).mono ?_; rintro e w4 ⟨rfl, hb⟩
    replace hw := b_next hw hb
    replace hm := m6_keep hb hm
    replace hn := m6_keep hb hn
    clear hb
    go_wp2_with fail
    refine (A1.out _).mono ?_; rintro e w4 ⟨rfl, hb⟩
    replace hw := b_alloc (b_next hw hb) (.cells #[.int .i64 ax, .int .i64 ay] 23)
    replace hm := m6_alloc (.cells #[.int .i64 ax, .int .i64 ay] 23) (m6_keep hb hm)
    replace hn := m6_alloc (.cells #[.int .i64 ax, .int .i64 ay] 23) (m6_keep hb hn)
    have pa := p2_new w4 23 ax ay
    clear hb
    go_wp2_with fail
    refine (A2.out _).mono ?_; rintro e w4 ⟨rfl, hb⟩
    replace hw := b_alloc (b_next hw hb) (.cells #[.int .i64 bx, .int .i64 by'] 23)
    replace hm := m6_alloc (.cells #[.int .i64 bx, .int .i64 by'] 23) (m6_keep hb hm)
    replace hn := m6_alloc (.cells #[.int .i64 bx, .int .i64 by'] 23) (m6_keep hb hn)
    replace pa := p2_alloc (.cells #[.int .i64 bx, .int .i64 by'] 23) (p2_keep hb pa)
    have pb := p2_new w4 23 bx by'
    clear hb
    go_wp2_with fail
    refine (S1.out _).mono ?_; rintro e w4 ⟨rfl, hb⟩
    replace hw := b_next hw hb
    replace hm := m6_keep hb hm
    replace hn := m6_keep hb hn
    clear hb
    clear pa pb
    go_wp2_with fail
    refine (A3.out _).mono ?_; rintro e w4 ⟨rfl, hb⟩
    replace hw := b_alloc (b_next hw hb) (.cells #[.int .i64 xx, .int .i64 xy] 23)
    replace hm := m6_alloc (.cells #[.int .i64 xx, .int .i64 xy] 23) (m6_keep hb hm)
    replace hn := m6_alloc (.cells #[.int .i64 xx, .int .i64 xy] 23) (m6_keep hb hn)
    have px := p2_new w4 23 xx xy
    clear hb
    go_wp2_with fail
    refine (A4.out _).mono ?_; rintro e w4 ⟨rfl, hb⟩
    replace hw := b_alloc (b_next hw hb) (.cells #[.int .i64 yx, .int .i64 yy] 23)
    replace hm := m6_alloc (.cells #[.int .i64 yx, .int .i64 yy] 23) (m6_keep hb hm)
    replace px := p2_alloc (.cells #[.int .i64 yx, .int .i64 yy] 23) (p2_keep hb px)
    have py := p2_new w4 23 yx yy
    clear hb
    go_wp2_with fail
    refine (S2.out _).mono ?_; rintro e w4 ⟨rfl, hb⟩
    replace hw := b_next hw hb
    replace px := p2_keep hb px
    replace py := p2_keep hb py
    clear hb
    go_wp2_with fail
    refine (S2.out _).mono ?_; rintro e w4 ⟨rfl, hb⟩
    replace hw := b_next hw hb
    clear hb
    go_wp2_with fail
    go_ret
    exact ⟨rfl, hw⟩
theorem walk (m0 m1 max may mbx mby n0 n1 nax nay nbx nby t : Int) (w : World) (_ : -9223372036854775808 ≤ m0 ∧ m0 ≤ 9223372036854775807) (_ : -9223372036854775808 ≤ m1 ∧ m1 ≤ 9223372036854775807) (_ : -9223372036854775808 ≤ max ∧ max ≤ 9223372036854775807) (_ : -9223372036854775808 ≤ may ∧ may ≤ 9223372036854775807) (_ : -9223372036854775808 ≤ mbx ∧ mbx ≤ 9223372036854775807) (_ : -9223372036854775808 ≤ mby ∧ mby ≤ 9223372036854775807) (_ : -9223372036854775808 ≤ n0 ∧ n0 ≤ 9223372036854775807) (_ : -9223372036854775808 ≤ n1 ∧ n1 ≤ 9223372036854775807) (_ : -9223372036854775808 ≤ nax ∧ nax ≤ 9223372036854775807) (_ : -9223372036854775808 ≤ nay ∧ nay ≤ 9223372036854775807) (_ : -9223372036854775808 ≤ nbx ∧ nbx ≤ 9223372036854775807) (_ : -9223372036854775808 ≤ nby ∧ nby ≤ 9223372036854775807) (_ : -9223372036854775808 ≤ t ∧ t ≤ 9223372036854775807) :
    Calls Try.prog 12 #[.agg #[.int .i64 m0, .int .i64 m1, .int .i64 max, .int .i64 may, .int .i64 mbx, .int .i64 mby], .agg #[.int .i64 n0, .int .i64 n1, .int .i64 nax, .int .i64 nay, .int .i64 nbx, .int .i64 nby], .int .i64 t] w fun e w' => e = .returned (.bool true) ∧ Below w.heap.size w w' := by
  have SM : ∀ w : World, _ := fun w => shortC m0 m1 max may mbx mby w
  have SN : ∀ w : World, _ := fun w => shortC n0 n1 nax nay nbx nby w
  generalize sh m0 m1 = M1 at *
  generalize sh n0 n1 = N1 at *
  by_cases hm : mok m0 M1 max may mbx mby
  · have B1 := both_second n0 N1 nax nay nbx nby hm
    by_cases hn : mok n0 N1 nax nay nbx nby
    · rw [mchk_ok hn] at B1
      obtain ⟨lo, hi, hlo, hhi, g1, g2, g3, g4, g5, g6⟩ := tri_cases hm hn
      rcases Int.lt_or_le hi lo with hlt | hle
      · have L1 := least_none B1 hlo hhi hlt
        exact bad m0 m1 max may mbx mby n0 n1 nax nay nbx nby M1 N1 t 8 w SM SN L1 rfl rfl
      · have L1 := least_ok (fun t => sqd m0 M1 max may mbx mby n0 N1 nax nay nbx nby t) B1 hlo hhi hle (by omega) (by omega) (fun t h1 h2 => square_ok hm hn (by omega) (by omega) (by omega) (by omega))
        obtain ⟨q1, q2, q3⟩ := arg_spec (fun t => sqd m0 M1 max may mbx mby n0 N1 nax nay nbx nby t) lo (hi - lo).toNat
        generalize arg (fun t => sqd m0 M1 max may mbx mby n0 N1 nax nay nbx nby t) lo (hi - lo).toNat = q at *
        have hqm : m0 ≤ q ∧ q ≤ M1 := by omega
        have hqn : n0 ≤ q ∧ q ≤ N1 := by omega
        have A1 := at_ok hm hqm.1 hqm.2
        have A2 := at_ok hn hqn.1 hqn.2
        have S1 := sq_at hm hn hqm.1 hqm.2 hqn.1 hqn.2
        have b1 : -299 ≤ t.tmod 300 ∧ t.tmod 300 ≤ 299 := by
          have := (Num.tdiv_facts t 300 (by omega)).2.2.2.1 (by omega); omega
        obtain ⟨T, hT⟩ : ∃ T, m0 + t.tmod 300 % 300 = T := ⟨_, rfl⟩
        have hm0 : 0 ≤ m0 ∧ m0 ≤ 200000 := by omega
        by_cases hTm : T < m0 ∨ M1 < T
        · by_cases hTn : T < n0 ∨ N1 < T
          · exact first_out m0 m1 max may mbx mby n0 n1 nax nay nbx nby M1 N1 t _ q _ _ _ _ T 12 _ _ _ _ 12 w SM SN L1 A1 A2 S1 hm0 b1 hT (at_time hm hTm) (at_time hn hTn) rfl rfl
          · exact first_out m0 m1 max may mbx mby n0 n1 nax nay nbx nby M1 N1 t _ q _ _ _ _ T 12 _ _ _ _ 0 w SM SN L1 A1 A2 S1 hm0 b1 hT (at_time hm hTm) (at_ok hn (by omega) (by omega)) rfl rfl
        · by_cases hTn : T < n0 ∨ N1 < T
          · exact second_out m0 m1 max may mbx mby n0 n1 nax nay nbx nby M1 N1 t _ q _ _ _ _ T _ _ _ _ 12 w SM SN L1 A1 A2 S1 hm0 b1 hT (at_ok hm (by omega) (by omega)) (at_time hn hTn) rfl rfl
          · have S2 := sq_at (t := T) hm hn (by omega) (by omega) (by omega) (by omega)
            have h := q3 T (by omega) (by omega)
            rcases h with h | ⟨h, h'⟩
            · exact more m0 m1 max may mbx mby n0 n1 nax nay nbx nby M1 N1 t _ q _ _ _ _ T _ _ _ _ _ w SM SN L1 A1 A2 S1 hm0 b1 hT (at_ok hm (by omega) (by omega)) (at_ok hn (by omega) (by omega)) S2 h
            · rw [show sqd m0 M1 max may mbx mby n0 N1 nax nay nbx nby T = sqd m0 M1 max may mbx mby n0 N1 nax nay nbx nby q from h.symm] at S2
              exact same m0 m1 max may mbx mby n0 n1 nax nay nbx nby M1 N1 t _ q _ _ _ _ T _ _ _ _ w SM SN L1 A1 A2 S1 hm0 b1 hT (at_ok hm (by omega) (by omega)) (at_ok hn (by omega) (by omega)) S2 h'
    · obtain ⟨e1, e2⟩ := ne_bool (mchk_bad hn)
      exact bad m0 m1 max may mbx mby n0 n1 nax nay nbx nby M1 N1 t _ w SM SN (least_bad B1 (mchk_bad hn)) e1 e2
  · obtain ⟨e1, e2⟩ := ne_bool (mchk_bad hm)
    exact bad m0 m1 max may mbx mby n0 n1 nax nay nbx nby M1 N1 t _ w SM SN (least_bad (both_first n0 N1 nax nay nbx nby hm) (mchk_bad hm)) e1 e2
-- FRAME --

set_option maxRecDepth 100000 in
theorem lifted (os : Os) (started : os.Started) (H : Type) (enc : TypeId × Value → H) :
    ReturnsInHanded {} Try.checked os 12 .any (Rows.motionLeastSpec.pre6 enc Try.prog Try.f12 Rows.motionLeastRow.domain false) (Rows.motionLeastSpec.post enc Try.prog Try.f12 false true false false) :=
  Frame.lifted (C := Try.checked) 12 Try.f12 Try.own started (by kernel_rfl) Try.func12 Try.laidOut rfl (by kernel_rfl) 4 rfl Try.underlying4
      (fun ds h => by match ds, h with | [_, _, _], _ => rfl)
      (ChangeSpec.witness6 (enc := enc) (C := Try.checked) false ⟨#[], #[.agg #[.int .i64 0, .int .i64 0, .int .i64 0, .int .i64 0, .int .i64 0, .int .i64 0], .agg #[.int .i64 0, .int .i64 0, .int .i64 0, .int .i64 0, .int .i64 0, .int .i64 0], .int .i64 0], []⟩ 8 (by kernel_rfl) (by kernel_rfl) (by kernel_rfl) (by kernel_rfl))
      (fun W base args ds ps hval0 hA _ => by
        have hval : ∀ (j : Nat) t v, Try.f12.params[j]? = some t → args[j]? = some v → Value.okWide Try.prog W .any base t v := hval0
        have hA' : DataW.TrodAll enc Try.prog W 0 (fun _ => true) true Try.f12.params.toList args.toList ds ps := hA
        clear hval0 hA
        have hA := hA'
        rw [Try.params12] at hA hval
        obtain ⟨v0, v1, v2, d0, d1, d2, p0, p1, p2, rfl, _, _, _, _, _⟩ := ChangeShapes.trodAll_three hA
        obtain ⟨ns_m, rfl, hl_m, hw_m⟩ := Frame.arg_flat _ Try.underlying55 (ts := [3, 3, 3, 3, 3, 3]) (by kernel_rfl) (by kernel_rfl) (by intro u hu; simp at hu; rw [hu]; exact Try.underlying3) (hval 0 _ _ rfl rfl)
        obtain ⟨m_t0, m_t1, m_ax, m_ay, m_bx, m_by, rfl⟩ := Frame.list6 hl_m
        obtain ⟨ns_n, rfl, hl_n, hw_n⟩ := Frame.arg_flat _ Try.underlying55 (ts := [3, 3, 3, 3, 3, 3]) (by kernel_rfl) (by kernel_rfl) (by intro u hu; simp at hu; rw [hu]; exact Try.underlying3) (hval 1 _ _ rfl rfl)
        obtain ⟨n_t0, n_t1, n_ax, n_ay, n_bx, n_by, rfl⟩ := Frame.list6 hl_n
        obtain ⟨t, rfl, w_t⟩ := Frame.arg_int Try.underlying3 (hval 2 _ _ rfl rfl)
        exact (walk m_t0 m_t1 m_ax m_ay m_bx m_by n_t0 n_t1 n_ax n_ay n_bx n_by t W (Frame.bd (hw_m _ (by simp))) (Frame.bd (hw_m _ (by simp))) (Frame.bd (hw_m _ (by simp))) (Frame.bd (hw_m _ (by simp))) (Frame.bd (hw_m _ (by simp))) (Frame.bd (hw_m _ (by simp))) (Frame.bd (hw_n _ (by simp))) (Frame.bd (hw_n _ (by simp))) (Frame.bd (hw_n _ (by simp))) (Frame.bd (hw_n _ (by simp))) (Frame.bd (hw_n _ (by simp))) (Frame.bd (hw_n _ (by simp))) (Frame.bd w_t)).mono fun e w' ⟨he, hw⟩ => ⟨he, hw⟩)

/-- The statement. -/
theorem proved : Rows.MotionLeastSaid :=
  OpenClaim.holds_of_wide 12 Try.f12 rfl rfl rfl rfl rfl rfl rfl ⟨rfl, rfl, rfl, rfl, rfl⟩ rfl rfl rfl rfl rfl (by kernel_rfl) Try.func12 (by kernel_rfl)
    (of_decide_eq_true (by kernel_rfl)) (by unfold Func.isWrapper; first | (rw [if_pos (by decide +kernel)]; kernel_rfl) | (rw [if_neg (by decide +kernel)]; exact ⟨rfl, rfl⟩))
    (fun os started H enc _ => lifted os started H enc)
#print axioms proved
end MotionLeast
end Go.Proofs.Ytaephikebeaibaa

