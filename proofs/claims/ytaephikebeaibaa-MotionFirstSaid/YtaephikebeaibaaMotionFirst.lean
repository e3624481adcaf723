/- MotionFirst answers true for all motions and numbers. -/
import Derived.Test.YtaephikebeaibaaMotion
import Derived.Deep.RegionWith
import Derived.Deep.DeepCutAuto
namespace Go.Proofs.Ytaephikebeaibaa
open Go.RowKit
namespace MotionFirst
open Kit Plane Motion
set_option maxHeartbeats 1000000 in
theorem bad0 (m0 m1 max may mbx mby n0 n1 nax nay nbx nby M1 N1 d E s q G : Int) (w : World) (SM : Hid (∀ w : World, Calls Try.prog 41 #[.agg #[.int .i64 m0, .int .i64 m1, .int .i64 max, .int .i64 may, .int .i64 mbx, .int .i64 mby]] w fun e w' => e = .returned (.agg #[.int .i64 m0, .int .i64 M1, .int .i64 max, .int .i64 may, .int .i64 mbx, .int .i64 mby]) ∧ Below w.heap.size w w')) (SN : Hid (∀ w : World, Calls Try.prog 41 #[.agg #[.int .i64 n0, .int .i64 n1, .int .i64 nax, .int .i64 nay, .int .i64 nbx, .int .i64 nby]] w fun e w' => e = .returned (.agg #[.int .i64 n0, .int .i64 N1, .int .i64 nax, .int .i64 nay, .int .i64 nbx, .int .i64 nby]) ∧ Below w.heap.size w w')) (F1 : Hid (FC m0 M1 max may mbx mby n0 N1 nax nay nbx nby d 0 E)) (L1 : Hid (LC m0 M1 max may mbx mby n0 N1 nax nay nbx nby s q G)) (hE1 : (E == 0) = false) (hE2 : (E != 0) = true) (hd : d < 0) :
    Calls Try.prog 13 #[.agg #[.int .i64 m0, .int .i64 m1, .int .i64 max, .int .i64 may, .int .i64 mbx, .int .i64 mby], .agg #[.int .i64 n0, .int .i64 n1, .int .i64 nax, .int .i64 nay, .int .i64 nbx, .int .i64 nby], .int .i64 d] w fun e w' => e = .returned (.bool true) ∧ Below w.heap.size w w' := by
  go_enter Try.func13, Try.ntmps13
  go_wp2_with fail
  have hw0 : Below w.heap.size w ((w.alloc (.cells #[.int .i64 m0, .int .i64 m1, .int .i64 max, .int .i64 may, .int .i64 mbx, .int .i64 mby] 55)).alloc (.cells #[.int .i64 n0, .int .i64 n1, .int .i64 nax, .int .i64 nay, .int .i64 nbx, .int .i64 nby] 55)) := b_alloc (b_alloc (Below.refl _ _) _) _
  have hm0 := m6_alloc (.cells #[.int .i64 n0, .int .i64 n1, .int .i64 nax, .int .i64 nay, .int .i64 nbx, .int .i64 nby] 55) (m6_new w 55 m0 m1 max may mbx mby)
  have hn0 := m6_new1 w (.cells #[.int .i64 m0, .int .i64 m1, .int .i64 max, .int .i64 may, .int .i64 mbx, .int .i64 mby] 55) 55 n0 n1 nax nay nbx nby
  have fm0 := f6_keep (b_alloc (Below.refl _ _) (.cells #[.int .i64 n0, .int .i64 n1, .int .i64 nax, .int .i64 nay, .int .i64 nbx, .int .i64 nby] 55)) (m6_new w 55 m0 m1 max may mbx mby) (f6_new w 55 m0 m1 max may mbx mby)
  have fn0 := f6_new1 w (.cells #[.int .i64 m0, .int .i64 m1, .int .i64 max, .int .i64 may, .int .i64 mbx, .int .i64 mby] 55) 55 n0 n1 nax nay nbx nby
  have HM := Lib.hid hm0; have HN := Lib.hid hn0; have FM := Lib.hid fm0; have FN := Lib.hid fn0; have HW := Lib.hid hw0
  clear hm0 hn0 fm0 fn0 hw0
  go_region_with (first
    | (go_at_call 41; (with_reducible refine (SM.out _).mono ?_); rintro e w1 ⟨rfl, hb⟩; have hw := b_next (b_drew HW.out) hb; have hm := m6_keep hb HM.out; have hn := m6_keep hb HN.out; have fm := f6_keep hb HM.out FM.out; have fn := f6_keep hb HN.out FN.out; clear hb)
    | (go_at_call 41; (with_reducible refine (SN.out _).mono ?_); rintro e w2 ⟨rfl, hb⟩; first
        | (have hw2 := b_next hw hb; have hm2 := m6_keep hb hm; have hn2 := m6_keep hb hn; have fm2 := f6_keep hb hm fm; have fn2 := f6_keep hb hn fn; clear hb)
        | (have hw2 := b_next (b_set6 _ _ _ _ _ _ (Nat.le_refl _) hw) hb; have hm2 := m6_keep hb (m6_set m0 M1 max may mbx mby hm); have hn2 := m6_keep hb (m6_far6 _ _ _ _ _ _ (by omega) hn); have fm2 := f6_keep hb (m6_set m0 M1 max may mbx mby hm) (f6_set6 _ _ _ _ _ _ fm); have fn2 := f6_keep hb (m6_far6 _ _ _ _ _ _ (by omega) hn) (f6_set6 _ _ _ _ _ _ fn); clear hb)))
  all_goals
    have Hw := Lib.hid (b_set6 (c := w.heap.size + 1) (.int .i64 n0) (.int .i64 N1) (.int .i64 nax) (.int .i64 nay) (.int .i64 nbx) (.int .i64 nby) (Nat.le_succ _) (b_set6 (c := w.heap.size) (.int .i64 m0) (.int .i64 M1) (.int .i64 max) (.int .i64 may) (.int .i64 mbx) (.int .i64 mby) (Nat.le_refl _) hw2))
    have Hm := Lib.hid (m6_far6 (c := w.heap.size + 1) (.int .i64 n0) (.int .i64 N1) (.int .i64 nax) (.int .i64 nay) (.int .i64 nbx) (.int .i64 nby) (by omega) (m6_set m0 M1 max may mbx mby hm2))
    have Hn := Lib.hid (m6_set n0 N1 nax nay nbx nby (m6_far6 (c := w.heap.size) (.int .i64 m0) (.int .i64 M1) (.int .i64 max) (.int .i64 may) (.int .i64 mbx) (.int .i64 mby) (by omega) hn2))
    clear HM HN FM FN HW hw hm hn fm fn hw2 hm2 hn2 fm2 fn2
    go_wp2_with fail
    refine (motionWorks _).mono ?_; rintro e w3 ⟨rfl, hb⟩
    have hw := b_next Hw.out hb; have hm := m6_keep hb Hm.out; have hn := m6_keep hb Hn.out
    clear hb Hw Hm Hn
    go_wp2_with fail
    refine (F1.out _).mono ?_; rintro e w4 ⟨rfl, hb⟩
    replace hw := b_next hw hb
    replace hm := m6_keep hb hm
    replace hn := m6_keep hb hn
    clear hb
    go_wp2_with fail
    refine (L1.out _).mono ?_; rintro e w4 ⟨rfl, hb⟩
    replace hw := b_next hw hb
    clear hb
    go_wp2_with fail
    go_ret
    exact ⟨rfl, hw⟩
set_option maxHeartbeats 1000000 in
theorem bad1 (m0 m1 max may mbx mby n0 n1 nax nay nbx nby M1 N1 d E s q G : Int) (w : World) (SM : Hid (∀ w : World, Calls Try.prog 41 #[.agg #[.int .i64 m0, .int .i64 m1, .int .i64 max, .int .i64 may, .int .i64 mbx, .int .i64 mby]] w fun e w' => e = .returned (.agg #[.int .i64 m0, .int .i64 M1, .int .i64 max, .int .i64 may, .int .i64 mbx, .int .i64 mby]) ∧ Below w.heap.size w w')) (SN : Hid (∀ w : World, Calls Try.prog 41 #[.agg #[.int .i64 n0, .int .i64 n1, .int .i64 nax, .int .i64 nay, .int .i64 nbx, .int .i64 nby]] w fun e w' => e = .returned (.agg #[.int .i64 n0, .int .i64 N1, .int .i64 nax, .int .i64 nay, .int .i64 nbx, .int .i64 nby]) ∧ Below w.heap.size w w')) (F1 : Hid (FC m0 M1 max may mbx mby n0 N1 nax nay nbx nby d 0 E)) (L1 : Hid (LC m0 M1 max may mbx mby n0 N1 nax nay nbx nby s q G)) (hE1 : (E == 0) = false) (hE2 : (E != 0) = true) (hd : ¬ d < 0) (hd2 : 1000000 < d) :
    Calls Try.prog 13 #[.agg #[.int .i64 m0, .int .i64 m1, .int .i64 max, .int .i64 may, .int .i64 mbx, .int .i64 mby], .agg #[.int .i64 n0, .int .i64 n1, .int .i64 nax, .int .i64 nay, .int .i64 nbx, .int .i64 nby], .int .i64 d] w fun e w' => e = .returned (.bool true) ∧ Below w.heap.size w w' := by
  go_enter Try.func13, Try.ntmps13
  go_wp2_with fail
  have hw0 : Below w.heap.size w ((w.alloc (.cells #[.int .i64 m0, .int .i64 m1, .int .i64 max, .int .i64 may, .int .i64 mbx, .int .i64 mby] 55)).alloc (.cells #[.int .i64 n0, .int .i64 n1, .int .i64 nax, .int .i64 nay, .int .i64 nbx, .int .i64 nby] 55)) := b_alloc (b_alloc (Below.refl _ _) _) _
  have hm0 := m6_alloc (.cells #[.int .i64 n0, .int .i64 n1, .int .i64 nax, .int .i64 nay, .int .i64 nbx, .int .i64 nby] 55) (m6_new w 55 m0 m1 max may mbx mby)
  have hn0 := m6_new1 w (.cells #[.int .i64 m0, .int .i64 m1, .int .i64 max, .int .i64 may, .int .i64 mbx, .int .i64 mby] 55) 55 n0 n1 nax nay nbx nby
  have fm0 := f6_keep (b_alloc (Below.refl _ _) (.cells #[.int .i64 n0, .int .i64 n1, .int .i64 nax, .int .i64 nay, .int .i64 nbx, .int .i64 nby] 55)) (m6_new w 55 m0 m1 max may mbx mby) (f6_new w 55 m0 m1 max may mbx mby)
  have fn0 := f6_new1 w (.cells #[.int .i64 m0, .int .i64 m1, .int .i64 max, .int .i64 may, .int .i64 mbx, .int .i64 mby] 55) 55 n0 n1 nax nay nbx nby
  have HM := Lib.hid hm0; have HN := Lib.hid hn0; have FM := Lib.hid fm0; have FN := Lib.hid fn0; have HW := Lib.hid hw0
  clear hm0 hn0 fm0 fn0 hw0
  go_region_with (first
    | (go_at_call 41; (with_reducible refine (SM.out _).mono ?_); rintro e w1 ⟨rfl, hb⟩; have hw := b_next (b_drew HW.out) hb; have hm := m6_keep hb HM.out; have hn := m6_keep hb HN.out; have fm := f6_keep hb HM.out FM.out; have fn := f6_keep hb HN.out FN.out; clear hb)
    | (go_at_call 41; (with_reducible refine (SN.out _).mono ?_); rintro e w2 ⟨rfl, hb⟩; first
        | (have hw2 := b_next hw hb; have hm2 := m6_keep hb hm; have hn2 := m6_keep hb hn; have fm2 := f6_keep hb hm fm; have fn2 := f6_keep hb hn fn; clear hb)
        | (have hw2 := b_next (b_set6 _ _ _ _ _ _ (Nat.le_refl _) hw) hb; have hm2 := m6_keep hb (m6_set m0 M1 max may mbx mby hm); have hn2 := m6_keep hb (m6_far6 _ _ _ _ _ _ (by omega) hn); have fm2 := f6_keep hb (m6_set m0 M1 max may mbx mby hm) (f6_set6 _ _ _ _ _ _ fm); have fn2 := f6_keep hb (m6_far6 _ _ _ _ _ _ (by omega) hn) (f6_set6 _ _ _ _ _ _ fn); clear hb)))
  all_goals
    have Hw := Lib.hid (b_set6 (c := w.heap.size + 1) (.int .i64 n0) (.int .i64 N1) (.int .i64 nax) (.int .i64 nay) (.int .i64 nbx) (.int .i64 nby) (Nat.le_succ _) (b_set6 (c := w.heap.size) (.int .i64 m0) (.int .i64 M1) (.int .i64 max) (.int .i64 may) (.int .i64 mbx) (.int .i64 mby) (Nat.le_refl _) hw2))
    have Hm := Lib.hid (m6_far6 (c := w.heap.size + 1) (.int .i64 n0) (.int .i64 N1) (.int .i64 nax) (.int .i64 nay) (.int .i64 nbx) (.int .i64 nby) (by omega) (m6_set m0 M1 max may mbx mby hm2))
    have Hn := Lib.hid (m6_set n0 N1 nax nay nbx nby (m6_far6 (c := w.heap.size) (.int .i64 m0) (.int .i64 M1) (.int .i64 max) (.int .i64 may) (.int .i64 mbx) (.int .i64 mby) (by omega) hn2))
    clear HM HN FM FN HW hw hm hn fm fn hw2 hm2 hn2 fm2 fn2
    go_wp2_with fail
    refine (motionWorks _).mono ?_; rintro e w3 ⟨rfl, hb⟩
    have hw := b_next Hw.out hb; have hm := m6_keep hb Hm.out; have hn := m6_keep hb Hn.out
    clear hb Hw Hm Hn
    go_wp2_with fail
    refine (F1.out _).mono ?_; rintro e w4 ⟨rfl, hb⟩
    replace hw := b_next hw hb
    replace hm := m6_keep hb hm
    replace hn := m6_keep hb hn
    clear hb
    go_wp2_with fail
    refine (L1.out _).mono ?_; rintro e w4 ⟨rfl, hb⟩
    replace hw := b_next hw hb
    clear hb
    go_wp2_with fail
    go_ret
    exact ⟨rfl, hw⟩
set_option maxHeartbeats 1000000 in
theorem bad2 (m0 m1 max may mbx mby n0 n1 nax nay nbx nby M1 N1 d E s q G : Int) (w : World) (SM : Hid (∀ w : World, Calls Try.prog 41 #[.agg #[.int .i64 m0, .int .i64 m1, .int .i64 max, .int .i64 may, .int .i64 mbx, .int .i64 mby]] w fun e w' => e = .returned (.agg #[.int .i64 m0, .int .i64 M1, .int .i64 max, .int .i64 may, .int .i64 mbx, .int .i64 mby]) ∧ Below w.heap.size w w')) (SN : Hid (∀ w : World, Calls Try.prog 41 #[.agg #[.int .i64 n0, .int .i64 n1, .int .i64 nax, .int .i64 nay, .int .i64 nbx, .int .i64 nby]] w fun e w' => e = .returned (.agg #[.int .i64 n0, .int .i64 N1, .int .i64 nax, .int .i64 nay, .int .i64 nbx, .int .i64 nby]) ∧ Below w.heap.size w w')) (F1 : Hid (FC m0 M1 max may mbx mby n0 N1 nax nay nbx nby d 0 E)) (L1 : Hid (LC m0 M1 max may mbx mby n0 N1 nax nay nbx nby s q G)) (hE1 : (E == 0) = false) (hE2 : (E != 0) = true) (hd : ¬ d < 0) (hd2 : ¬ 1000000 < d) (hG1 : (G == 0) = false) (hG2 : (G != 0) = true) :
    Calls Try.prog 13 #[.agg #[.int .i64 m0, .int .i64 m1, .int .i64 max, .int .i64 may, .int .i64 mbx, .int .i64 mby], .agg #[.int .i64 n0, .int .i64 n1, .int .i64 nax, .int .i64 nay, .int .i64 nbx, .int .i64 nby], .int .i64 d] w fun e w' => e = .returned (.bool true) ∧ Below w.heap.size w w' := by
  go_enter Try.func13, Try.ntmps13
  go_wp2_with fail
  have hw0 : Below w.heap.size w ((w.alloc (.cells #[.int .i64 m0, .int .i64 m1, .int .i64 max, .int .i64 may, .int .i64 mbx, .int .i64 mby] 55)).alloc (.cells #[.int .i64 n0, .int .i64 n1, .int .i64 nax, .int .i64 nay, .int .i64 nbx, .int .i64 nby] 55)) := b_alloc (b_alloc (Below.refl _ _) _) _
  have hm0 := m6_alloc (.cells #[.int .i64 n0, .int .i64 n1, .int .i64 nax, .int .i64 nay, .int .i64 nbx, .int .i64 nby] 55) (m6_new w 55 m0 m1 max may mbx mby)
  have hn0 := m6_new1 w (.cells #[.int .i64 m0, .int .i64 m1, .int .i64 max, .int .i64 may, .int .i64 mbx, .int .i64 mby] 55) 55 n0 n1 nax nay nbx nby
  have fm0 := f6_keep (b_alloc (Below.refl _ _) (.cells #[.int .i64 n0, .int .i64 n1, .int .i64 nax, .int .i64 nay, .int .i64 nbx, .int .i64 nby] 55)) (m6_new w 55 m0 m1 max may mbx mby) (f6_new w 55 m0 m1 max may mbx mby)
  have fn0 := f6_new1 w (.cells #[.int .i64 m0, .int .i64 m1, .int .i64 max, .int .i64 may, .int .i64 mbx, .int .i64 mby] 55) 55 n0 n1 nax nay nbx nby
  have HM := Lib.hid hm0; have HN := Lib.hid hn0; have FM := Lib.hid fm0; have FN := Lib.hid fn0; have HW := Lib.hid hw0
  clear hm0 hn0 fm0 fn0 hw0
  go_region_with (first
    | (go_at_call 41; (with_reducible refine (SM.out _).mono ?_); rintro e w1 ⟨rfl, hb⟩; have hw := b_next (b_drew HW.out) hb; have hm := m6_keep hb HM.out; have hn := m6_keep hb HN.out; have fm := f6_keep hb HM.out FM.out; have fn := f6_keep hb HN.out FN.out; clear hb)
    | (go_at_call 41; (with_reducible refine (SN.out _).mono ?_); rintro e w2 ⟨rfl, hb⟩; first
        | (have hw2 := b_next hw hb; have hm2 := m6_keep hb hm; have hn2 := m6_keep hb hn; have fm2 := f6_keep hb hm fm; have fn2 := f6_keep hb hn fn; clear hb)
        | (have hw2 := b_next (b_set6 _ _ _ _ _ _ (Nat.le_refl _) hw) hb; have hm2 := m6_keep hb (m6_set m0 M1 max may mbx mby hm); have hn2 := m6_keep hb (m6_far6 _ _ _ _ _ _ (by omega) hn); have fm2 := f6_keep hb (m6_set m0 M1 max may mbx mby hm) (f6_set6 _ _ _ _ _ _ fm); have fn2 := f6_keep hb (m6_far6 _ _ _ _ _ _ (by omega) hn) (f6_set6 _ _ _ _ _ _ fn); clear hb)))
  all_goals
    have Hw := Lib.hid (b_set6 (c := w.heap.size + 1) (.int .i64 n0) (.int .i64 N1) (.int .i64 nax) (.int .i64 nay) (.int .i64 nbx) (.int .i64 nby) (Nat.le_succ _) (b_set6 (c := w.heap.size) (.int .i64 m0) (.int .i64 M1) (.int .i64 max) (.int .i64 may) (.int .i64 mbx) (.int .i64 mby) (Nat.le_refl _) hw2))
    have Hm := Lib.hid (m6_far6 (c := w.heap.size + 1) (.int .i64 n0) (.int .i64 N1) (.int .i64 nax) (.int .i64 nay) (.int .i64 nbx) (.int .i64 nby) (by omega) (m6_set m0 M1 max may mbx mby hm2))
    have Hn := Lib.hid (m6_set n0 N1 nax nay nbx nby (m6_far6 (c := w.heap.size) (.int .i64 m0) (.int .i64 M1) (.int .i64 max) (.int .i64 may) (.int .i64 mbx) (.int .i64 mby) (by omega) hn2))
    clear HM HN FM FN HW hw hm hn fm fn hw2 hm2 hn2 fm2 fn2
    go_wp2_with fail
    refine (motionWorks _).mono ?_; rintro e w3 ⟨rfl, hb⟩
    have hw := b_next Hw.out hb; have hm := m6_keep hb Hm.out; have hn := m6_keep hb Hn.out
    clear hb Hw Hm Hn
    go_wp2_with fail
    refine (F1.out _).mono ?_; rintro e w4 ⟨rfl, hb⟩
    replace hw := b_next hw hb
    replace hm := m6_keep hb hm
    replace hn := m6_keep hb hn
    clear hb
    go_wp2_with fail
    refine (L1.out _).mono ?_; rintro e w4 ⟨rfl, hb⟩
    replace hw := b_next hw hb
    clear hb
    go_wp2_with fail
    go_ret
    exact ⟨rfl, hw⟩
set_option maxHeartbeats 1000000 in
theorem none_ (m0 m1 max may mbx mby n0 n1 nax nay nbx nby M1 N1 d s q : Int) (w : World) (SM : Hid (∀ w : World, Calls Try.prog 41 #[.agg #[.int .i64 m0, .int .i64 m1, .int .i64 max, .int .i64 may, .int .i64 mbx, .int .i64 mby]] w fun e w' => e = .returned (.agg #[.int .i64 m0, .int .i64 M1, .int .i64 max, .int .i64 may, .int .i64 mbx, .int .i64 mby]) ∧ Below w.heap.size w w')) (SN : Hid (∀ w : World, Calls Try.prog 41 #[.agg #[.int .i64 n0, .int .i64 n1, .int .i64 nax, .int .i64 nay, .int .i64 nbx, .int .i64 nby]] w fun e w' => e = .returned (.agg #[.int .i64 n0, .int .i64 N1, .int .i64 nax, .int .i64 nay, .int .i64 nbx, .int .i64 nby]) ∧ Below w.heap.size w w')) (F1 : Hid (FC m0 M1 max may mbx mby n0 N1 nax nay nbx nby d 0 8)) (L1 : Hid (LC m0 M1 max may mbx mby n0 N1 nax nay nbx nby s q 0)) (h0 : 0 ≤ d) (h1 : d ≤ 1000000) (h2 : 0 ≤ d * d ∧ d * d ≤ 1000000000000) (h3 : d * d ≤ s) :
    Calls Try.prog 13 #[.agg #[.int .i64 m0, .int .i64 m1, .int .i64 max, .int .i64 may, .int .i64 mbx, .int .i64 mby], .agg #[.int .i64 n0, .int .i64 n1, .int .i64 nax, .int .i64 nay, .int .i64 nbx, .int .i64 nby], .int .i64 d] w fun e w' => e = .returned (.bool true) ∧ Below w.heap.size w w' := by
  go_enter Try.func13, Try.ntmps13
  go_wp2_with fail
  have hw0 : Below w.heap.size w ((w.alloc (.cells #[.int .i64 m0, .int .i64 m1, .int .i64 max, .int .i64 may, .int .i64 mbx, .int .i64 mby] 55)).alloc (.cells #[.int .i64 n0, .int .i64 n1, .int .i64 nax, .int .i64 nay, .int .i64 nbx, .int .i64 nby] 55)) := b_alloc (b_alloc (Below.refl _ _) _) _
  have hm0 := m6_alloc (.cells #[.int .i64 n0, .int .i64 n1, .int .i64 nax, .int .i64 nay, .int .i64 nbx, .int .i64 nby] 55) (m6_new w 55 m0 m1 max may mbx mby)
  have hn0 := m6_new1 w (.cells #[.int .i64 m0, .int .i64 m1, .int .i64 max, .int .i64 may, .int .i64 mbx, .int .i64 mby] 55) 55 n0 n1 nax nay nbx nby
  have fm0 := f6_keep (b_alloc (Below.refl _ _) (.cells #[.int .i64 n0, .int .i64 n1, .int .i64 nax, .int .i64 nay, .int .i64 nbx, .int .i64 nby] 55)) (m6_new w 55 m0 m1 max may mbx mby) (f6_new w 55 m0 m1 max may mbx mby)
  have fn0 := f6_new1 w (.cells #[.int .i64 m0, .int .i64 m1, .int .i64 max, .int .i64 may, .int .i64 mbx, .int .i64 mby] 55) 55 n0 n1 nax nay nbx nby
  have HM := Lib.hid hm0; have HN := Lib.hid hn0; have FM := Lib.hid fm0; have FN := Lib.hid fn0; have HW := Lib.hid hw0
  clear hm0 hn0 fm0 fn0 hw0
  go_region_with (first
    | (go_at_call 41; (with_reducible refine (SM.out _).mono ?_); rintro e w1 ⟨rfl, hb⟩; have hw := b_next (b_drew HW.out) hb; have hm := m6_keep hb HM.out; have hn := m6_keep hb HN.out; have fm := f6_keep hb HM.out FM.out; have fn := f6_keep hb HN.out FN.out; clear hb)
    | (go_at_call 41; (with_reducible refine (SN.out _).mono ?_); rintro e w2 ⟨rfl, hb⟩; first
        | (have hw2 := b_next hw hb; have hm2 := m6_keep hb hm; have hn2 := m6_keep hb hn; have fm2 := f6_keep hb hm fm; have fn2 := f6_keep hb hn fn; clear hb)
        | (have hw2 := b_next (b_set6 _ _ _ _ _ _ (Nat.le_refl _) hw) hb; have hm2 := m6_keep hb (m6_set m0 M1 max may mbx mby hm); have hn2 := m6_keep hb (m6_far6 _ _ _ _ _ _ (by omega) hn); have fm2 := f6_keep hb (m6_set m0 M1 max may mbx mby hm) (f6_set6 _ _ _ _ _ _ fm); have fn2 := f6_keep hb (m6_far6 _ _ _ _ _ _ (by omega) hn) (f6_set6 _ _ _ _ _ _ fn); clear hb)))
  all_goals
    have Hw := Lib.hid (b_set6 (c := w.heap.size + 1) (.int .i64 n0) (.int .i64 N1) (.int .i64 nax) (.int .i64 nay) (.int .i64 nbx) (.int .i64 nby) (Nat.le_succ _) (b_set6 (c := w.heap.size) (.int .i64 m0) (.int .i64 M1) (.int .i64 max) (.int .i64 may) (.int .i64 mbx) (.int .i64 mby) (Nat.le_refl _) hw2))
    have Hm := Lib.hid (m6_far6 (c := w.heap.size + 1) (.int .i64 n0) (.int .i64 N1) (.int .i64 nax) (.int .i64 nay) (.int .i64 nbx) (.int .i64 nby) (by omega) (m6_set m0 M1 max may mbx mby hm2))
    have Hn := Lib.hid (m6_set n0 N1 nax nay nbx nby (m6_far6 (c := w.heap.size) (.int .i64 m0) (.int .i64 M1) (.int .i64 max) (.int .i64 may) (.int .i64 mbx) (.int .i64 mby) (by omega) hn2))
    clear HM HN FM FN HW hw hm hn fm fn hw2 hm2 hn2 fm2 fn2
    go_wp2_with fail
    refine (motionWorks _).mono ?_; rintro e w3 ⟨rfl, hb⟩
    have hw := b_next Hw.out hb; have hm := m6_keep hb Hm.out; have hn := m6_keep hb Hn.out
    clear hb Hw Hm Hn
    go_wp2_with fail
    refine (F1.out _).mono ?_; rintro e w4 ⟨rfl, hb⟩
    replace hw := b_next hw hb
    replace hm := m6_keep hb hm
    replace hn := m6_keep hb hn
    clear hb
    go_wp2_with fail
    refine (L1.out _).mono ?_; rintro e w4 ⟨rfl, hb⟩
    replace hw := b_next hw hb
    clear hb
    go_wp2_with fail
    go_ret
    exact ⟨rfl, hw⟩
set_option maxHeartbeats 1000000 in
theorem some_ (m0 m1 max may mbx mby n0 n1 nax nay nbx nby M1 N1 d r s q : Int) (w : World) (SM : Hid (∀ w : World, Calls Try.prog 41 #[.agg #[.int .i64 m0, .int .i64 m1, .int .i64 max, .int .i64 may, .int .i64 mbx, .int .i64 mby]] w fun e w' => e = .returned (.agg #[.int .i64 m0, .int .i64 M1, .int .i64 max, .int .i64 may, .int .i64 mbx, .int .i64 mby]) ∧ Below w.heap.size w w')) (SN : Hid (∀ w : World, Calls Try.prog 41 #[.agg #[.int .i64 n0, .int .i64 n1, .int .i64 nax, .int .i64 nay, .int .i64 nbx, .int .i64 nby]] w fun e w' => e = .returned (.agg #[.int .i64 n0, .int .i64 N1, .int .i64 nax, .int .i64 nay, .int .i64 nbx, .int .i64 nby]) ∧ Below w.heap.size w w')) (F1 : Hid (FC m0 M1 max may mbx mby n0 N1 nax nay nbx nby d r 0)) (L1 : Hid (LC m0 M1 max may mbx mby n0 N1 nax nay nbx nby s q 0)) (h0 : 0 ≤ d) (h1 : d ≤ 1000000) (h2 : 0 ≤ d * d ∧ d * d ≤ 1000000000000) (h3 : s < d * d) (h4 : r ≤ q) :
    Calls Try.prog 13 #[.agg #[.int .i64 m0, .int .i64 m1, .int .i64 max, .int .i64 may, .int .i64 mbx, .int .i64 mby], .agg #[.int .i64 n0, .int .i64 n1, .int .i64 nax, .int .i64 nay, .int .i64 nbx, .int .i64 nby], .int .i64 d] w fun e w' => e = .returned (.bool true) ∧ Below w.heap.size w w' := by
  go_enter Try.func13, Try.ntmps13
  go_wp2_with fail
  have hw0 : Below w.heap.size w ((w.alloc (.cells #[.int .i64 m0, .int .i64 m1, .int .i64 max, .int .i64 may, .int .i64 mbx, .int .i64 mby] 55)).alloc (.cells #[.int .i64 n0, .int .i64 n1, .int .i64 nax, .int .i64 nay, .int .i64 nbx, .int .i64 nby] 55)) := b_alloc (b_alloc (Below.refl _ _) _) _
  have hm0 := m6_alloc (.cells #[.int .i64 n0, .int .i64 n1, .int .i64 nax, .int .i64 nay, .int .i64 nbx, .int .i64 nby] 55) (m6_new w 55 m0 m1 max may mbx mby)
  have hn0 := m6_new1 w (.cells #[.int .i64 m0, .int .i64 m1, .int .i64 max, .int .i64 may, .int .i64 mbx, .int .i64 mby] 55) 55 n0 n1 nax nay nbx nby
  have fm0 := f6_keep (b_alloc (Below.refl _ _) (.cells #[.int .i64 n0, .int .i64 n1, .int .i64 nax, .int .i64 nay, .int .i64 nbx, .int .i64 nby] 55)) (m6_new w 55 m0 m1 max may mbx mby) (f6_new w 55 m0 m1 max may mbx mby)
  have fn0 := f6_new1 w (.cells #[.int .i64 m0, .int .i64 m1, .int .i64 max, .int .i64 may, .int .i64 mbx, .int .i64 mby] 55) 55 n0 n1 nax nay nbx nby
  have HM := Lib.hid hm0; have HN := Lib.hid hn0; have FM := Lib.hid fm0; have FN := Lib.hid fn0; have HW := Lib.hid hw0
  clear hm0 hn0 fm0 fn0 hw0
  go_region_with (first
    | (go_at_call 41; (with_reducible refine (SM.out _).mono ?_); rintro e w1 ⟨rfl, hb⟩; have hw := b_next (b_drew HW.out) hb; have hm := m6_keep hb HM.out; have hn := m6_keep hb HN.out; have fm := f6_keep hb HM.out FM.out; have fn := f6_keep hb HN.out FN.out; clear hb)
    | (go_at_call 41; (with_reducible refine (SN.out _).mono ?_); rintro e w2 ⟨rfl, hb⟩; first
        | (have hw2 := b_next hw hb; have hm2 := m6_keep hb hm; have hn2 := m6_keep hb hn; have fm2 := f6_keep hb hm fm; have fn2 := f6_keep hb hn fn; clear hb)
        | (have hw2 := b_next (b_set6 _ _ _ _ _ _ (Nat.le_refl _) hw) hb; have hm2 := m6_keep hb (m6_set m0 M1 max may mbx mby hm); have hn2 := m6_keep hb (m6_far6 _ _ _ _ _ _ (by omega) hn); have fm2 := f6_keep hb (m6_set m0 M1 max may mbx mby hm) (f6_set6 _ _ _ _ _ _ fm); have fn2 := f6_keep hb (m6_far6 _ _ _ _ _ _ (by omega) hn) (f6_set6 _ _ _ _ _ _ fn); clear hb)))
  all_goals
    have Hw := Lib.hid (b_set6 (c := w.heap.size + 1) (.int .i64 n0) (.int .i64 N1) (.int .i64 nax) (.int .i64 nay) (.int .i64 nbx) (.int .i64 nby) (Nat.le_succ _) (b_set6 (c := w.heap.size) (.int .i64 m0) (.int .i64 M1) (.int .i64 max) (.int .i64 may) (.int .i64 mbx) (.int .i64 mby) (Nat.le_refl _) hw2))
    have Hm := Lib.hid (m6_far6 (c := w.heap.size + 1) (.int .i64 n0) (.int .i64 N1) (.int .i64 nax) (.int .i64 nay) (.int .i64 nbx) (.int .i64 nby) (by omega) (m6_set m0 M1 max may mbx mby hm2))
    have Hn := Lib.hid (m6_set n0 N1 nax nay nbx nby (m6_far6 (c := w.heap.size) (.int .i64 m0) (.int .i64 M1) (.int .i64 max) (.int .i64 may) (.int .i64 mbx) (.int .i64 mby) (by omega) hn2))
    clear HM HN FM FN HW hw hm hn fm fn hw2 hm2 hn2 fm2 fn2
    go_wp2_with fail
    refine (motionWorks _).mono ?_; rintro e w3 ⟨rfl, hb⟩
    have hw := b_next Hw.out hb; have hm := m6_keep hb Hm.out; have hn := m6_keep hb Hn.out
    clear hb Hw Hm Hn
    go_wp2_with fail
    refine (F1.out _).mono ?_; rintro e w4 ⟨rfl, hb⟩
    replace hw := b_next hw hb
    replace hm := m6_keep hb hm
    replace hn := m6_keep hb hn
    clear hb
    go_wp2_with fail
    refine (L1.out _).mono ?_; rintro e w4 ⟨rfl, hb⟩
    replace hw := b_next hw hb
    clear hb
    go_wp2_with fail
    go_ret
    exact ⟨rfl, hw⟩
theorem walk (m0 m1 max may mbx mby n0 n1 nax nay nbx nby d : Int) (w : World) (_ : -9223372036854775808 ≤ m0 ∧ m0 ≤ 9223372036854775807) (_ : -9223372036854775808 ≤ m1 ∧ m1 ≤ 9223372036854775807) (_ : -9223372036854775808 ≤ max ∧ max ≤ 9223372036854775807) (_ : -9223372036854775808 ≤ may ∧ may ≤ 9223372036854775807) (_ : -9223372036854775808 ≤ mbx ∧ mbx ≤ 9223372036854775807) (_ : -9223372036854775808 ≤ mby ∧ mby ≤ 9223372036854775807) (_ : -9223372036854775808 ≤ n0 ∧ n0 ≤ 9223372036854775807) (_ : -9223372036854775808 ≤ n1 ∧ n1 ≤ 9223372036854775807) (_ : -9223372036854775808 ≤ nax ∧ nax ≤ 9223372036854775807) (_ : -9223372036854775808 ≤ nay ∧ nay ≤ 9223372036854775807) (_ : -9223372036854775808 ≤ nbx ∧ nbx ≤ 9223372036854775807) (_ : -9223372036854775808 ≤ nby ∧ nby ≤ 9223372036854775807) (_ : -9223372036854775808 ≤ d ∧ d ≤ 9223372036854775807) :
    Calls Try.prog 13 #[.agg #[.int .i64 m0, .int .i64 m1, .int .i64 max, .int .i64 may, .int .i64 mbx, .int .i64 mby], .agg #[.int .i64 n0, .int .i64 n1, .int .i64 nax, .int .i64 nay, .int .i64 nbx, .int .i64 nby], .int .i64 d] w fun e w' => e = .returned (.bool true) ∧ Below w.heap.size w w' := by
  have SM : ∀ w : World, _ := fun w => shortC m0 m1 max may mbx mby w
  have SN : ∀ w : World, _ := fun w => shortC n0 n1 nax nay nbx nby w
  generalize sh m0 m1 = M1 at *
  generalize sh n0 n1 = N1 at *
  have fail : ∀ E : Int, E ≠ 0 → BC m0 M1 max may mbx mby n0 N1 nax nay nbx nby E → Calls Try.prog 13 #[.agg #[.int .i64 m0, .int .i64 m1, .int .i64 max, .int .i64 may, .int .i64 mbx, .int .i64 mby], .agg #[.int .i64 n0, .int .i64 n1, .int .i64 nax, .int .i64 nay, .int .i64 nbx, .int .i64 nby], .int .i64 d] w fun e w' => e = .returned (.bool true) ∧ Below w.heap.size w w' := fun E hE B1 => by
    obtain ⟨e1, e2⟩ := ne_bool hE
    have F1 := first_bad d B1 hE
    have L1 := least_bad B1 hE
    by_cases hd : d < 0
    · exact bad0 m0 m1 max may mbx mby n0 n1 nax nay nbx nby M1 N1 d E _ _ _ w SM SN F1 L1 e1 e2 hd
    · by_cases hd2 : 1000000 < d
      · exact bad1 m0 m1 max may mbx mby n0 n1 nax nay nbx nby M1 N1 d E _ _ _ w SM SN F1 L1 e1 e2 hd hd2
      · exact bad2 m0 m1 max may mbx mby n0 n1 nax nay nbx nby M1 N1 d E _ _ _ w SM SN F1 L1 e1 e2 hd hd2 e1 e2
  by_cases hm : mok m0 M1 max may mbx mby
  · have B1 := both_second n0 N1 nax nay nbx nby hm
    by_cases hn : mok n0 N1 nax nay nbx nby
    · rw [mchk_ok hn] at B1
      obtain ⟨lo, hi, hlo, hhi, g1, g2, g3, g4, g5, g6⟩ := tri_cases hm hn
      have S := fun t (h1 : lo ≤ t) (h2 : t ≤ hi) => square_ok (t := t) hm hn (by omega) (by omega) (by omega) (by omega)
      have lo0 : 0 ≤ lo ∧ hi ≤ 200000 ∧ lo ≤ 200000 := by omega
      have L : ∃ s q G : Int, LC m0 M1 max may mbx mby n0 N1 nax nay nbx nby s q G ∧ ((hi < lo ∧ G = 8) ∨ (lo ≤ hi ∧ G = 0 ∧ lo ≤ q ∧ q ≤ hi ∧ s = sqd m0 M1 max may mbx mby n0 N1 nax nay nbx nby q ∧ ∀ t, lo ≤ t → t ≤ hi → sqd m0 M1 max may mbx mby n0 N1 nax nay nbx nby q ≤ sqd m0 M1 max may mbx mby n0 N1 nax nay nbx nby t)) := by
        rcases Int.lt_or_le hi lo with hlt | hle
        · exact ⟨0, 0, 8, least_none B1 hlo hhi hlt, Or.inl ⟨hlt, rfl⟩⟩
        · obtain ⟨q1, q2, q3⟩ := arg_spec (fun t => sqd m0 M1 max may mbx mby n0 N1 nax nay nbx nby t) lo (hi - lo).toNat
          refine ⟨_, _, 0, least_ok (fun t => sqd m0 M1 max may mbx mby n0 N1 nax nay nbx nby t) B1 hlo hhi hle lo0.1 lo0.2.1 S, Or.inr ⟨hle, rfl, q1, by omega, rfl, fun t h1 h2 => ?_⟩⟩
          have h := q3 t h1 (by omega)
          try simp only at h
          omega
      obtain ⟨s, q, G, L1, hL⟩ := L
      by_cases hd : d < 0
      · exact bad0 m0 m1 max may mbx mby n0 n1 nax nay nbx nby M1 N1 d 4 _ _ _ w SM SN (first_range B1 (Or.inl hd)) L1 rfl rfl hd
      · by_cases hd2 : 1000000 < d
        · exact bad1 m0 m1 max may mbx mby n0 n1 nax nay nbx nby M1 N1 d 4 _ _ _ w SM SN (first_range B1 (Or.inr hd2)) L1 rfl rfl hd hd2
        · have hdd : d * d ≤ 1000000000000 := sq_le_of (M := 1000000) (by omega)
          obtain ⟨r, e, hF⟩ := firstIs_exists (fun t => sqd m0 M1 max may mbx mby n0 N1 nax nay nbx nby t) lo hi (d * d)
          have F1 := first_ok (d := d) (fun t => sqd m0 M1 max may mbx mby n0 N1 nax nay nbx nby t) B1 hlo hhi lo0.1 lo0.2.1 lo0.2.2 (by omega) (by omega) S hF
          rcases hL with ⟨hlt, hG⟩ | ⟨hle, hG, q1, q2, hs, hmin⟩
          · subst hG
            rcases hF with ⟨a1, a2, a3, a4, a5⟩ | ⟨a1, a2, a3⟩
            · omega
            · subst a1; subst a2
              exact bad2 m0 m1 max may mbx mby n0 n1 nax nay nbx nby M1 N1 d 8 _ _ _ w SM SN F1 L1 rfl rfl hd hd2 rfl rfl
          · subst hG
            rcases hF with ⟨a1, a2, a3, a4, a5⟩ | ⟨a1, a2, a3⟩
            · subst a1
              have hm2 := hmin r a2 a3
              have hr : r ≤ q := by
                rcases Int.lt_or_le q r with h | h
                · have := a5 q q1 h; dsimp only at this a4; omega
                · exact h
              exact some_ m0 m1 max may mbx mby n0 n1 nax nay nbx nby M1 N1 d r s q w SM SN F1 L1 (by omega) (by omega) ⟨sq_nonneg d, hdd⟩ (by dsimp only at a4; omega) hr
            · subst a1; subst a2
              have := a3 q q1 q2
              dsimp only at this
              exact none_ m0 m1 max may mbx mby n0 n1 nax nay nbx nby M1 N1 d s q w SM SN F1 L1 (by omega) (by omega) ⟨sq_nonneg d, hdd⟩ (by omega)
    · exact fail _ (mchk_bad hn) B1
  · exact fail _ (mchk_bad hm) (both_first n0 N1 nax nay nbx nby hm)
-- FRAME --

set_option maxRecDepth 100000 in
theorem lifted (os : Os) (started : os.Started) (H : Type) (enc : TypeId × Value → H) :
    ReturnsInHanded {} Try.checked os 13 .any (Rows.motionFirstSpec.pre6 enc Try.prog Try.f13 Rows.motionFirstRow.domain false) (Rows.motionFirstSpec.post enc Try.prog Try.f13 false true false false) :=
  Frame.lifted (C := Try.checked) 13 Try.f13 Try.own started (by kernel_rfl) Try.func13 Try.laidOut rfl (by kernel_rfl) 4 rfl Try.underlying4
      (fun ds h => by match ds, h with | [_, _, _], _ => rfl)
      (ChangeSpec.witness6 (enc := enc) (C := Try.checked) false ⟨#[], #[.agg #[.int .i64 0, .int .i64 0, .int .i64 0, .int .i64 0, .int .i64 0, .int .i64 0], .agg #[.int .i64 0, .int .i64 0, .int .i64 0, .int .i64 0, .int .i64 0, .int .i64 0], .int .i64 0], []⟩ 8 (by kernel_rfl) (by kernel_rfl) (by kernel_rfl) (by kernel_rfl))
      (fun W base args ds ps hval0 hA _ => by
        have hval : ∀ (j : Nat) t v, Try.f13.params[j]? = some t → args[j]? = some v → Value.okWide Try.prog W .any base t v := hval0
        have hA' : DataW.TrodAll enc Try.prog W 0 (fun _ => true) true Try.f13.params.toList args.toList ds ps := hA
        clear hval0 hA
        have hA := hA'
        rw [Try.params13] at hA hval
        obtain ⟨v0, v1, v2, d0, d1, d2, p0, p1, p2, rfl, _, _, _, _, _⟩ := ChangeShapes.trodAll_three hA
        obtain ⟨ns_m, rfl, hl_m, hw_m⟩ := Frame.arg_flat _ Try.underlying55 (ts := [3, 3, 3, 3, 3, 3]) (by kernel_rfl) (by kernel_rfl) (by intro u hu; simp at hu; rw [hu]; exact Try.underlying3) (hval 0 _ _ rfl rfl)
        obtain ⟨m_t0, m_t1, m_ax, m_ay, m_bx, m_by, rfl⟩ := Frame.list6 hl_m
        obtain ⟨ns_n, rfl, hl_n, hw_n⟩ := Frame.arg_flat _ Try.underlying55 (ts := [3, 3, 3, 3, 3, 3]) (by kernel_rfl) (by kernel_rfl) (by intro u hu; simp at hu; rw [hu]; exact Try.underlying3) (hval 1 _ _ rfl rfl)
        obtain ⟨n_t0, n_t1, n_ax, n_ay, n_bx, n_by, rfl⟩ := Frame.list6 hl_n
        obtain ⟨d, rfl, w_d⟩ := Frame.arg_int Try.underlying3 (hval 2 _ _ rfl rfl)
        exact (walk m_t0 m_t1 m_ax m_ay m_bx m_by n_t0 n_t1 n_ax n_ay n_bx n_by d W (Frame.bd (hw_m _ (by simp))) (Frame.bd (hw_m _ (by simp))) (Frame.bd (hw_m _ (by simp))) (Frame.bd (hw_m _ (by simp))) (Frame.bd (hw_m _ (by simp))) (Frame.bd (hw_m _ (by simp))) (Frame.bd (hw_n _ (by simp))) (Frame.bd (hw_n _ (by simp))) (Frame.bd (hw_n _ (by simp))) (Frame.bd (hw_n _ (by simp))) (Frame.bd (hw_n _ (by simp))) (Frame.bd (hw_n _ (by simp))) (Frame.bd w_d)).mono fun e w' ⟨he, hw⟩ => ⟨he, hw⟩)

/-- The statement. -/
theorem proved : Rows.MotionFirstSaid :=
  OpenClaim.holds_of_wide 13 Try.f13 rfl rfl rfl rfl rfl rfl rfl ⟨rfl, rfl, rfl, rfl, rfl⟩ rfl rfl rfl rfl rfl (by kernel_rfl) Try.func13 (by kernel_rfl)
    (of_decide_eq_true (by kernel_rfl)) (by unfold Func.isWrapper; first | (rw [if_pos (by decide +kernel)]; kernel_rfl) | (rw [if_neg (by decide +kernel)]; exact ⟨rfl, rfl⟩))
    (fun os started H enc _ => lifted os started H enc)
#print axioms proved
end MotionFirst
end Go.Proofs.Ytaephikebeaibaa

