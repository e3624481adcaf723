/- TubeCuts: a part of a tube has nearly the same nodes, and the same ones at its ends. For every input. -/
import Derived.Test.YtampbjbalenckaaTubeCut
import Derived.Test.YtampbjbalenckaaTubeW
namespace Go.Proofs.Ytampbjbalenckaa
open Go.RowKit Go.ChangeShapes Go.WideShapes
namespace TubeCuts
open Kit Plane Tube
set_option maxHeartbeats 1000000 in
theorem offC (m n : Int) (w : World) (_hm : -1000000 ≤ m ∧ m ≤ 1000000) (_hn : -1000000 ≤ n ∧ n ≤ 1000000) (h : m - n ≤ 1 ∧ n - m ≤ 1) : Calls Try.prog 26 #[.int .i64 m, .int .i64 n] w fun e w' => e = .returned (.bool false) ∧ w = w' := by
  go_enter Try.func26, Try.ntmps26
  go_wp2_with fail
  all_goals first | (exfalso; omega) | (go_ret; exact ⟨retb (by simp; omega), rfl⟩)
set_option maxHeartbeats 1000000 in
theorem bad (v : Value) (fr to t E : Int) (w : World) (C : Hid (∀ w1, Below w.heap.size w w1 → Calls Try.prog 24 #[v, .int .i64 fr, .int .i64 to] w1 fun e w' => e = .returned (.tuple #[.slice none 0 0, .int .i64 E]) ∧ Below w1.heap.size w1 w')) (_hE1 : (E == 0) = false) (hE2 : (E != 0) = true) :
    Calls Try.prog 7 #[v, .int .i64 fr, .int .i64 to, .int .i64 t] w fun e w' => e = .returned (.bool true) ∧ Below w.heap.size w w' := by
  go_enter Try.func7, Try.ntmps7
  go_wp2_with fail
  (with_reducible refine (tubeWorks _).mono ?_); rintro e w1 ⟨rfl, hw⟩
  go_wp2_with fail
  (with_reducible refine (C.out _ hw).mono ?_); rintro e w2 ⟨rfl, h⟩
  replace hw := b_next hw h; clear h
  go_wp2_with fail
  go_ret
  exact ⟨retb rfl, hw⟩
/-- What is known of the part: a tube that Check accepts, and its ends. -/
abbrev CuC (v : Value) (m : Nat) (T X Y H R B : Nat → Int) (fr to : Int) (w : World) : Prop := ∀ w1, Below w.heap.size w w1 → Calls Try.prog 24 #[v, .int .i64 fr, .int .i64 to] w1 fun e w' => (∃ g cap', e = .returned (.tuple #[.slice (some ⟨g, 0, none⟩) m cap', .int .i64 0]) ∧ m ≤ cap' ∧ cap' ≤ maxLen ∧ TV w' (.slice (some ⟨g, 0, none⟩) m cap') m T X Y H R B) ∧ Below w1.heap.size w1 w'
set_option maxRecDepth 100000 in
set_option maxHeartbeats 4000000 in
theorem late (n cap b off m : Nat) (T' X' Y' H' R' B' : Nat → Int) (fr to t u p0 p1 p2 p3 p4 p5 q0 q1 q2 q3 q4 q5 E E' : Int) (w : World)
    (C : Hid (CuC (.slice (some ⟨b, off, none⟩) n cap) m T' X' Y' H' R' B' fr to w)) (CHK : Hid (tck T' X' Y' H' R' B' m = 0)) (HT0 : Hid (T' 0 = fr)) (HT1 : Hid (T' (m - 1) = to)) (hm0 : 0 < m) (hm : m ≤ 64)
    (b0 : 0 ≤ fr ∧ fr ≤ 200000) (bt : 0 ≤ to ∧ to ≤ 200000) (b1 : -999 ≤ t.tmod 1000 ∧ t.tmod 1000 ≤ 999) (hu : fr + t.tmod 1000 % 1000 = u)
    (A : Hid (∀ w1, Below w.heap.size w w1 → Calls Try.prog 22 #[.slice (some ⟨b, off, none⟩) n cap, .int .i64 u] w1 fun e w' => e = .returned (.tuple #[.agg #[.int .i64 p0, .int .i64 p1, .int .i64 p2, .int .i64 p3, .int .i64 p4, .int .i64 p5], .int .i64 E]) ∧ Below w1.heap.size w1 w'))
    (A2 : Hid (∀ w1 v, TV w1 v m T' X' Y' H' R' B' → Calls Try.prog 22 #[v, .int .i64 u] w1 fun e w' => e = .returned (.tuple #[.agg #[.int .i64 q0, .int .i64 q1, .int .i64 q2, .int .i64 q3, .int .i64 q4, .int .i64 q5], .int .i64 E']) ∧ Below w1.heap.size w1 w'))
    (hE : ((E == 0) = false ∧ (E != 0) = true) ∨ ((E == 0) = true ∧ (E != 0) = false ∧ (E' == 0) = false ∧ (E' != 0) = true)) (hl : to < u) :
    Calls Try.prog 7 #[.slice (some ⟨b, off, none⟩) n cap, .int .i64 fr, .int .i64 to, .int .i64 t] w fun e w' => e = .returned (.bool true) ∧ Below w.heap.size w w' := by
  have hub : -1000000 ≤ u ∧ u ≤ 1000000 := by omega
  have m1 : IntKind.i64.wrap ((m : Int) - 1) = ((m - 1 : Nat) : Int) := by rw [IntWalk.i64_in _ (by omega)]; omega
  have m2 : ((m - 1 : Nat) : Int) < (m : Int) := by omega
  have m3 : (m : Int) - 1 = ((m - 1 : Nat) : Int) := by omega
  have m4 : (0 : Int) < (m : Int) := by omega
  go_enter Try.func7, Try.ntmps7
  go_wp2_with fail
  (with_reducible refine (tubeWorks _).mono ?_); rintro e w1 ⟨rfl, h⟩
  have W1 := Lib.hid h; clear h
  go_wp2_with fail
  (with_reducible refine (C.out _ W1.out).mono ?_); rintro e w2 ⟨⟨g, cap', rfl, hmc, hcm, hv⟩, h⟩
  have hcm' : cap' ≤ 9223372036854775807 := Nat.le_trans hcm (by decide)
  have V2 := Lib.hid hv; have W2 := Lib.hid (b_next W1.out h); have CM := Lib.hid hcm; clear h hv hcm
  have CK := Lib.hid (checkC V2.out w2 (Below.refl _ _))
  rw [CHK.out] at CK
  go_wp2_with fail
  (with_reducible refine CK.out.mono ?_); rintro e w3 ⟨rfl, h⟩
  have V3 := Lib.hid (tv_keep h V2.out); have W3 := Lib.hid (b_next W2.out h); clear h CK
  have hS : ∀ k, k < m → S6 w3 g (0 + k * 6) (T' k) (X' k) (Y' k) (H' k) (R' k) (B' k) := by
    rcases V3.out with ⟨h, -⟩ | ⟨-, b2, off2, cap2, he, -, -, h3⟩
    · omega
    · injection he with h4; injection h4 with h4; injection h4 with h4 h5; subst h4 h5; exact h3
  obtain ⟨⟨c0, -⟩, -⟩ := hS 0 (by omega)
  obtain ⟨⟨c1, -⟩, -⟩ := hS (m - 1) (by omega)
  rw [Nat.zero_mul, Nat.add_zero] at c0
  rw [Nat.zero_add] at c1
  rw [HT0.out] at c0
  rw [HT1.out] at c1
  clear hS
  go_wp2_with fail
  all_goals first | (exfalso; simp_all; done) | skip
  (with_reducible refine (A.out _ W3.out).mono ?_); rintro e w4 ⟨rfl, h⟩
  have ZA := Lib.hid (d6_new w4 47 p0 p1 p2 p3 p4 p5); have V4 := Lib.hid (tv_keep (b_alloc (Below.refl w4.heap.size w4) (.cells #[.int .i64 p0, .int .i64 p1, .int .i64 p2, .int .i64 p3, .int .i64 p4, .int .i64 p5] 47)) (tv_keep h V3.out)); have W4 := Lib.hid (b_alloc (b_next W3.out h) (.cells #[.int .i64 p0, .int .i64 p1, .int .i64 p2, .int .i64 p3, .int .i64 p4, .int .i64 p5] 47)); clear h c0 c1
  go_wp2_with fail
  (with_reducible refine (A2.out _ _ V4.out).mono ?_); rintro e w5 ⟨rfl, h⟩
  have za := d6_keep h ZA.out
  have n5 := new_ne za.1.1
  have ZA2 := Lib.hid (d6_keep (b_alloc (Below.refl w5.heap.size w5) (.cells #[.int .i64 q0, .int .i64 q1, .int .i64 q2, .int .i64 q3, .int .i64 q4, .int .i64 q5] 47)) za); have DB := Lib.hid (d6_new w5 47 q0 q1 q2 q3 q4 q5)
  have W6 := Lib.hid (b_alloc (b_next W4.out h) (.cells #[.int .i64 q0, .int .i64 q1, .int .i64 q2, .int .i64 q3, .int .i64 q4, .int .i64 q5] 47)); clear h za
  obtain ⟨⟨a0, a1, a2⟩, a3, a4, a5⟩ := ZA2.out
  rcases hE with ⟨e1, e2⟩ | ⟨e1, e2, e3, e4⟩
  all_goals
    go_wp2_with fail
    go_ret
    exact ⟨retb (by first | (simp; done) | (simp; omega)), W6.out⟩
set_option maxRecDepth 100000 in
set_option maxHeartbeats 4000000 in
theorem near (n cap b off m : Nat) (T' X' Y' H' R' B' : Nat → Int) (fr to t u p1 p2 p3 p4 p5 q1 q2 q3 q4 q5 : Int) (w : World)
    (C : Hid (CuC (.slice (some ⟨b, off, none⟩) n cap) m T' X' Y' H' R' B' fr to w)) (CHK : Hid (tck T' X' Y' H' R' B' m = 0)) (HT0 : Hid (T' 0 = fr)) (HT1 : Hid (T' (m - 1) = to)) (hm0 : 0 < m) (hm : m ≤ 64)
    (b0 : 0 ≤ fr ∧ fr ≤ 200000) (_bt : 0 ≤ to ∧ to ≤ 200000) (b1 : -999 ≤ t.tmod 1000 ∧ t.tmod 1000 ≤ 999) (hu : fr + t.tmod 1000 % 1000 = u)
    (A : Hid (∀ w1, Below w.heap.size w w1 → Calls Try.prog 22 #[.slice (some ⟨b, off, none⟩) n cap, .int .i64 u] w1 fun e w' => e = .returned (.tuple #[.agg #[.int .i64 u, .int .i64 p1, .int .i64 p2, .int .i64 p3, .int .i64 p4, .int .i64 p5], .int .i64 0]) ∧ Below w1.heap.size w1 w'))
    (A2 : Hid (∀ w1 v, TV w1 v m T' X' Y' H' R' B' → Calls Try.prog 22 #[v, .int .i64 u] w1 fun e w' => e = .returned (.tuple #[.agg #[.int .i64 u, .int .i64 q1, .int .i64 q2, .int .i64 q3, .int .i64 q4, .int .i64 q5], .int .i64 0]) ∧ Below w1.heap.size w1 w'))
    (bd : -1000000 ≤ p1 ∧ p1 ≤ 1000000 ∧ -1000000 ≤ p2 ∧ p2 ≤ 1000000 ∧ -1000000 ≤ p3 ∧ p3 ≤ 1000000 ∧ -1000000 ≤ p4 ∧ p4 ≤ 1000000 ∧ -1000000 ≤ p5 ∧ p5 ≤ 1000000 ∧ -1000000 ≤ q1 ∧ q1 ≤ 1000000 ∧ -1000000 ≤ q2 ∧ q2 ≤ 1000000 ∧ -1000000 ≤ q3 ∧ q3 ≤ 1000000 ∧ -1000000 ≤ q4 ∧ q4 ≤ 1000000 ∧ -1000000 ≤ q5 ∧ q5 ≤ 1000000) (hn : p1 - q1 ≤ 1 ∧ q1 - p1 ≤ 1 ∧ p2 - q2 ≤ 1 ∧ q2 - p2 ≤ 1 ∧ p3 - q3 ≤ 1 ∧ q3 - p3 ≤ 1 ∧ p4 - q4 ≤ 1 ∧ q4 - p4 ≤ 1 ∧ p5 - q5 ≤ 1 ∧ q5 - p5 ≤ 1) (_hf1 : (u == fr) = false) (hf2 : (u != fr) = true) (_hz1 : (u == to) = false) (hz2 : (u != to) = true) :
    Calls Try.prog 7 #[.slice (some ⟨b, off, none⟩) n cap, .int .i64 fr, .int .i64 to, .int .i64 t] w fun e w' => e = .returned (.bool true) ∧ Below w.heap.size w w' := by
  have hub : -1000000 ≤ u ∧ u ≤ 1000000 := by omega
  have m1 : IntKind.i64.wrap ((m : Int) - 1) = ((m - 1 : Nat) : Int) := by rw [IntWalk.i64_in _ (by omega)]; omega
  have m2 : ((m - 1 : Nat) : Int) < (m : Int) := by omega
  have m3 : (m : Int) - 1 = ((m - 1 : Nat) : Int) := by omega
  have m4 : (0 : Int) < (m : Int) := by omega
  go_enter Try.func7, Try.ntmps7
  go_wp2_with fail
  (with_reducible refine (tubeWorks _).mono ?_); rintro e w1 ⟨rfl, h⟩
  have W1 := Lib.hid h; clear h
  go_wp2_with fail
  (with_reducible refine (C.out _ W1.out).mono ?_); rintro e w2 ⟨⟨g, cap', rfl, hmc, hcm, hv⟩, h⟩
  have hcm' : cap' ≤ 9223372036854775807 := Nat.le_trans hcm (by decide)
  have V2 := Lib.hid hv; have W2 := Lib.hid (b_next W1.out h); have CM := Lib.hid hcm; clear h hv hcm
  have CK := Lib.hid (checkC V2.out w2 (Below.refl _ _))
  rw [CHK.out] at CK
  go_wp2_with fail
  (with_reducible refine CK.out.mono ?_); rintro e w3 ⟨rfl, h⟩
  have V3 := Lib.hid (tv_keep h V2.out); have W3 := Lib.hid (b_next W2.out h); clear h CK
  have hS : ∀ k, k < m → S6 w3 g (0 + k * 6) (T' k) (X' k) (Y' k) (H' k) (R' k) (B' k) := by
    rcases V3.out with ⟨h, -⟩ | ⟨-, b2, off2, cap2, he, -, -, h3⟩
    · omega
    · injection he with h4; injection h4 with h4; injection h4 with h4 h5; subst h4 h5; exact h3
  obtain ⟨⟨c0, -⟩, -⟩ := hS 0 (by omega)
  obtain ⟨⟨c1, -⟩, -⟩ := hS (m - 1) (by omega)
  rw [Nat.zero_mul, Nat.add_zero] at c0
  rw [Nat.zero_add] at c1
  rw [HT0.out] at c0
  rw [HT1.out] at c1
  clear hS
  go_wp2_with fail
  all_goals first | (exfalso; simp_all; done) | skip
  (with_reducible refine (A.out _ W3.out).mono ?_); rintro e w4 ⟨rfl, h⟩
  have ZA := Lib.hid (d6_new w4 47 u p1 p2 p3 p4 p5); have V4 := Lib.hid (tv_keep (b_alloc (Below.refl w4.heap.size w4) (.cells #[.int .i64 u, .int .i64 p1, .int .i64 p2, .int .i64 p3, .int .i64 p4, .int .i64 p5] 47)) (tv_keep h V3.out)); have W4 := Lib.hid (b_alloc (b_next W3.out h) (.cells #[.int .i64 u, .int .i64 p1, .int .i64 p2, .int .i64 p3, .int .i64 p4, .int .i64 p5] 47)); clear h c0 c1
  go_wp2_with fail
  (with_reducible refine (A2.out _ _ V4.out).mono ?_); rintro e w5 ⟨rfl, h⟩
  have za := d6_keep h ZA.out
  have n5 := new_ne za.1.1
  have ZA2 := Lib.hid (d6_keep (b_alloc (Below.refl w5.heap.size w5) (.cells #[.int .i64 u, .int .i64 q1, .int .i64 q2, .int .i64 q3, .int .i64 q4, .int .i64 q5] 47)) za); have DB := Lib.hid (d6_new w5 47 u q1 q2 q3 q4 q5)
  have W6 := Lib.hid (b_alloc (b_next W4.out h) (.cells #[.int .i64 u, .int .i64 q1, .int .i64 q2, .int .i64 q3, .int .i64 q4, .int .i64 q5] 47)); clear h za
  obtain ⟨⟨a0, a1, a2⟩, a3, a4, a5⟩ := ZA2.out
  have dB := DB.out
  obtain ⟨⟨d0, d1, d2⟩, d3, d4, d5⟩ := dB
  go_wp2_with fail
  (with_reducible refine (offC _ _ _ (by omega) (by omega) (by omega)).mono ?_); rintro e w6 ⟨rfl, rfl⟩
  go_wp2_with fail
  (with_reducible refine (offC _ _ _ (by omega) (by omega) (by omega)).mono ?_); rintro e w7 ⟨rfl, rfl⟩
  go_wp2_with fail
  (with_reducible refine (offC _ _ _ (by omega) (by omega) (by omega)).mono ?_); rintro e w8 ⟨rfl, rfl⟩
  go_wp2_with fail
  (with_reducible refine (offC _ _ _ (by omega) (by omega) (by omega)).mono ?_); rintro e w9 ⟨rfl, rfl⟩
  go_wp2_with fail
  (with_reducible refine (offC _ _ _ (by omega) (by omega) (by omega)).mono ?_); rintro e w10 ⟨rfl, rfl⟩
  go_wp2_with fail
  go_ret
  exact ⟨retb rfl, W6.out⟩
set_option maxRecDepth 100000 in
set_option maxHeartbeats 4000000 in
theorem same (n cap b off m : Nat) (T' X' Y' H' R' B' : Nat → Int) (fr to t u p1 p2 p3 p4 p5 : Int) (w : World)
    (C : Hid (CuC (.slice (some ⟨b, off, none⟩) n cap) m T' X' Y' H' R' B' fr to w)) (CHK : Hid (tck T' X' Y' H' R' B' m = 0)) (HT0 : Hid (T' 0 = fr)) (HT1 : Hid (T' (m - 1) = to)) (hm0 : 0 < m) (hm : m ≤ 64)
    (b0 : 0 ≤ fr ∧ fr ≤ 200000) (_bt : 0 ≤ to ∧ to ≤ 200000) (b1 : -999 ≤ t.tmod 1000 ∧ t.tmod 1000 ≤ 999) (hu : fr + t.tmod 1000 % 1000 = u)
    (A : Hid (∀ w1, Below w.heap.size w w1 → Calls Try.prog 22 #[.slice (some ⟨b, off, none⟩) n cap, .int .i64 u] w1 fun e w' => e = .returned (.tuple #[.agg #[.int .i64 u, .int .i64 p1, .int .i64 p2, .int .i64 p3, .int .i64 p4, .int .i64 p5], .int .i64 0]) ∧ Below w1.heap.size w1 w'))
    (A2 : Hid (∀ w1 v, TV w1 v m T' X' Y' H' R' B' → Calls Try.prog 22 #[v, .int .i64 u] w1 fun e w' => e = .returned (.tuple #[.agg #[.int .i64 u, .int .i64 p1, .int .i64 p2, .int .i64 p3, .int .i64 p4, .int .i64 p5], .int .i64 0]) ∧ Below w1.heap.size w1 w'))
    (bd : -1000000 ≤ p1 ∧ p1 ≤ 1000000 ∧ -1000000 ≤ p2 ∧ p2 ≤ 1000000 ∧ -1000000 ≤ p3 ∧ p3 ≤ 1000000 ∧ -1000000 ≤ p4 ∧ p4 ≤ 1000000 ∧ -1000000 ≤ p5 ∧ p5 ≤ 1000000) (hq : ((u == fr) = true ∧ (u != fr) = false) ∨ ((u == fr) = false ∧ (u != fr) = true ∧ (((u == to) = true ∧ (u != to) = false) ∨ ((u == to) = false ∧ (u != to) = true)))) :
    Calls Try.prog 7 #[.slice (some ⟨b, off, none⟩) n cap, .int .i64 fr, .int .i64 to, .int .i64 t] w fun e w' => e = .returned (.bool true) ∧ Below w.heap.size w w' := by
  have hub : -1000000 ≤ u ∧ u ≤ 1000000 := by omega
  have m1 : IntKind.i64.wrap ((m : Int) - 1) = ((m - 1 : Nat) : Int) := by rw [IntWalk.i64_in _ (by omega)]; omega
  have m2 : ((m - 1 : Nat) : Int) < (m : Int) := by omega
  have m3 : (m : Int) - 1 = ((m - 1 : Nat) : Int) := by omega
  have m4 : (0 : Int) < (m : Int) := by omega
  go_enter Try.func7, Try.ntmps7
  go_wp2_with fail
  (with_reducible refine (tubeWorks _).mono ?_); rintro e w1 ⟨rfl, h⟩
  have W1 := Lib.hid h; clear h
  go_wp2_with fail
  (with_reducible refine (C.out _ W1.out).mono ?_); rintro e w2 ⟨⟨g, cap', rfl, hmc, hcm, hv⟩, h⟩
  have hcm' : cap' ≤ 9223372036854775807 := Nat.le_trans hcm (by decide)
  have V2 := Lib.hid hv; have W2 := Lib.hid (b_next W1.out h); have CM := Lib.hid hcm; clear h hv hcm
  have CK := Lib.hid (checkC V2.out w2 (Below.refl _ _))
  rw [CHK.out] at CK
  go_wp2_with fail
  (with_reducible refine CK.out.mono ?_); rintro e w3 ⟨rfl, h⟩
  have V3 := Lib.hid (tv_keep h V2.out); have W3 := Lib.hid (b_next W2.out h); clear h CK
  have hS : ∀ k, k < m → S6 w3 g (0 + k * 6) (T' k) (X' k) (Y' k) (H' k) (R' k) (B' k) := by
    rcases V3.out with ⟨h, -⟩ | ⟨-, b2, off2, cap2, he, -, -, h3⟩
    · omega
    · injection he with h4; injection h4 with h4; injection h4 with h4 h5; subst h4 h5; exact h3
  obtain ⟨⟨c0, -⟩, -⟩ := hS 0 (by omega)
  obtain ⟨⟨c1, -⟩, -⟩ := hS (m - 1) (by omega)
  rw [Nat.zero_mul, Nat.add_zero] at c0
  rw [Nat.zero_add] at c1
  rw [HT0.out] at c0
  rw [HT1.out] at c1
  clear hS
  go_wp2_with fail
  all_goals first | (exfalso; simp_all; done) | skip
  (with_reducible refine (A.out _ W3.out).mono ?_); rintro e w4 ⟨rfl, h⟩
  have ZA := Lib.hid (d6_new w4 47 u p1 p2 p3 p4 p5); have V4 := Lib.hid (tv_keep (b_alloc (Below.refl w4.heap.size w4) (.cells #[.int .i64 u, .int .i64 p1, .int .i64 p2, .int .i64 p3, .int .i64 p4, .int .i64 p5] 47)) (tv_keep h V3.out)); have W4 := Lib.hid (b_alloc (b_next W3.out h) (.cells #[.int .i64 u, .int .i64 p1, .int .i64 p2, .int .i64 p3, .int .i64 p4, .int .i64 p5] 47)); clear h c0 c1
  go_wp2_with fail
  (with_reducible refine (A2.out _ _ V4.out).mono ?_); rintro e w5 ⟨rfl, h⟩
  have za := d6_keep h ZA.out
  have n5 := new_ne za.1.1
  have ZA2 := Lib.hid (d6_keep (b_alloc (Below.refl w5.heap.size w5) (.cells #[.int .i64 u, .int .i64 p1, .int .i64 p2, .int .i64 p3, .int .i64 p4, .int .i64 p5] 47)) za); have DB := Lib.hid (d6_new w5 47 u p1 p2 p3 p4 p5)
  have W6 := Lib.hid (b_alloc (b_next W4.out h) (.cells #[.int .i64 u, .int .i64 p1, .int .i64 p2, .int .i64 p3, .int .i64 p4, .int .i64 p5] 47)); clear h za
  obtain ⟨⟨a0, a1, a2⟩, a3, a4, a5⟩ := ZA2.out
  have dB := DB.out
  obtain ⟨⟨d0, d1, d2⟩, d3, d4, d5⟩ := dB
  go_wp2_with fail
  (with_reducible refine (offC _ _ _ (by omega) (by omega) (by omega)).mono ?_); rintro e w6 ⟨rfl, rfl⟩
  go_wp2_with fail
  (with_reducible refine (offC _ _ _ (by omega) (by omega) (by omega)).mono ?_); rintro e w7 ⟨rfl, rfl⟩
  go_wp2_with fail
  (with_reducible refine (offC _ _ _ (by omega) (by omega) (by omega)).mono ?_); rintro e w8 ⟨rfl, rfl⟩
  go_wp2_with fail
  (with_reducible refine (offC _ _ _ (by omega) (by omega) (by omega)).mono ?_); rintro e w9 ⟨rfl, rfl⟩
  go_wp2_with fail
  (with_reducible refine (offC _ _ _ (by omega) (by omega) (by omega)).mono ?_); rintro e w10 ⟨rfl, rfl⟩
  rcases hq with ⟨f1, f2⟩ | ⟨f1, f2, ⟨f3, f4⟩ | ⟨f3, f4⟩⟩
  all_goals
    go_wp2_with fail
    go_ret
    exact ⟨retb rfl, W6.out⟩
theorem tm1000 (x : Int) : -999 ≤ x.tmod 1000 ∧ x.tmod 1000 ≤ 999 := by
  have := (Num.tdiv_facts x 1000 (by omega)).2.2.2.1 (by omega); omega
theorem tatE_ok {T X Y H R B : Nat → Int} {n : Nat} {u : Int} (hp : tok T X Y H R B n) (h0 : T 0 ≤ u) (h1 : u ≤ T (n - 1)) : tatE T X Y H R B n u = 0 := by
  unfold tatE; rw [(tck_zero n).2 hp, if_neg (by omega), if_neg (by omega)]
theorem tatE_late {T X Y H R B : Nat → Int} {n : Nat} {u : Int} (hp : tok T X Y H R B n) (h1 : T (n - 1) < u) : tatE T X Y H R B n u = 12 := by
  unfold tatE; rw [(tck_zero n).2 hp, if_neg (by omega), if_pos (by omega)]
theorem beqs (x y : Int) : ((x == y) = true ∧ (x != y) = false) ∨ ((x == y) = false ∧ (x != y) = true) := by
  by_cases h : x = y
  · exact Or.inl ⟨by simp [h], by simp [h]⟩
  · exact Or.inr ⟨by simp [h], by simp [h]⟩
section
variable {T X Y H R B : Nat → Int} {n : Nat} {a z : Int} {lo hi : Nat}
theorem cut_last (hp : tok T X Y H R B n) (hc : CutAt T n a z lo hi) (h0 : T 0 ≤ a) (haz : a ≤ z) (hz : z ≤ T (n - 1)) : cutT T lo (1 + (hi - lo)) a z (cutN a z lo hi - 1) = z ∧ 0 < cutN a z lo hi ∧ cutN a z lo hi ≤ 64 := by
  obtain ⟨b1, b2, b3, b4⟩ := cut_bds hp hc h0 haz hz
  have hn := hp.small
  unfold cutN
  by_cases h : a < z
  · rw [if_pos h]
    have := b3 h
    exact ⟨cutT_end _ _ _ (by omega) (by omega), by omega, by omega⟩
  · rw [if_neg h]
    have := b4 (by omega)
    rw [show 1 + (hi - lo) + 0 - 1 = 0 from by omega, cutT_zero]
    exact ⟨by omega, by omega, by omega⟩
/-- The numbers of the part, one by one. -/
theorem cut_each (hp : tok T X Y H R B n) (hc : CutAt T n a z lo hi) (h0 : T 0 ≤ a) (haz : a ≤ z) (hz : z ≤ T (n - 1)) {r : Nat} (_hr : r < cutN a z lo hi) (Q : Int → Int → Int → Int → Int → Prop) {i0 i2 : Nat}
    (q0 : Q (tx T X i0 a) (tx T Y i0 a) (th T H i0 a) (tu T R i0 a) (tu T B i0 a)) (q2 : Q (tx T X i2 z) (tx T Y i2 z) (th T H i2 z) (tu T R i2 z) (tu T B i2 z)) (qk : ∀ k, k < n → Q (X k) (Y k) (H k) (R k) (B k)) :
    Q (cutT X lo (1 + (hi - lo)) (tx T X i0 a) (tx T X i2 z) r) (cutT Y lo (1 + (hi - lo)) (tx T Y i0 a) (tx T Y i2 z) r) (cutT H lo (1 + (hi - lo)) (th T H i0 a) (th T H i2 z) r) (cutT R lo (1 + (hi - lo)) (tu T R i0 a) (tu T R i2 z) r) (cutT B lo (1 + (hi - lo)) (tu T B i0 a) (tu T B i2 z) r) := by
  obtain ⟨b1, b2, b3, b4⟩ := cut_bds hp hc h0 haz hz
  rcases Nat.eq_zero_or_pos r with h | h
  · subst h; simp only [cutT_zero]; exact q0
  · rcases Nat.lt_or_ge r (1 + (hi - lo)) with hl | hl
    · simp only [cutT_mid _ _ _ h hl]; exact qk _ (by omega)
    · simp only [cutT_end _ _ _ h hl]; exact q2
theorem cut_tok (hp : tok T X Y H R B n) (hc : CutAt T n a z lo hi) (h0 : T 0 ≤ a) (haz : a ≤ z) (hz : z ≤ T (n - 1)) {i0 i2 : Nat} (hi0 : tseg T n a i0) (hi2 : tseg T n z i2) :
    tok (cutT T lo (1 + (hi - lo)) a z) (cutT X lo (1 + (hi - lo)) (tx T X i0 a) (tx T X i2 z)) (cutT Y lo (1 + (hi - lo)) (tx T Y i0 a) (tx T Y i2 z)) (cutT H lo (1 + (hi - lo)) (th T H i0 a) (th T H i2 z)) (cutT R lo (1 + (hi - lo)) (tu T R i0 a) (tu T R i2 z)) (cutT B lo (1 + (hi - lo)) (tu T B i0 a) (tu T B i2 z)) (cutN a z lo hi) := by
  obtain ⟨-, l2, l3⟩ := cut_last hp hc h0 haz hz
  have t0 := hp.time 0 hp.pos
  have tn := hp.time (n - 1) (by have := hp.pos; omega)
  have q0 := at_bds hp hi0 (by omega)
  have q2 := at_bds hp hi2 (by omega)
  refine ⟨l2, l3, fun k hk => ?_, fun k hk => ?_, fun k hk => ?_, fun k hk => (cut_time hp hc h0 haz hz (by omega)).2.2 hk⟩
  · have := cut_time hp hc h0 haz hz hk; omega
  · exact cut_each hp hc h0 haz hz hk (fun x y _ _ _ => good x y) q0.1 q2.1 (fun k hk => hp.point k hk)
  · exact cut_each hp hc h0 haz hz hk (fun _ _ h r b => (0 ≤ h ∧ h ≤ 60000) ∧ (0 ≤ r ∧ r ≤ 1000000) ∧ (0 ≤ b ∧ b ≤ 60000)) q0.2 q2.2 (fun k hk => hp.nums k hk)
end
theorem walk (l : Value) (fr : Int) (to : Int) (t : Int) (W : World) (h_l : Frame.Okc W (.sl [.int, .int, .int, .int, .int, .int]) l) (h_fr : -9223372036854775808 ≤ fr ∧ fr ≤ 9223372036854775807) (h_to : -9223372036854775808 ≤ to ∧ to ≤ 9223372036854775807) (_h_t : -9223372036854775808 ≤ t ∧ t ≤ 9223372036854775807) :
    Calls Try.prog 7 #[l, .int .i64 fr, .int .i64 to, .int .i64 t] W fun e w' => e = .returned (.bool true) ∧ Below W.heap.size W w' := by
  obtain ⟨n, T, X, Y, H, R, B, hv⟩ := tv_of h_l
  have C := checkC hv
  by_cases hE : tck T X Y H R B n = 0
  · have hp := (tck_zero n).1 hE
    rw [hE] at C
    by_cases hx : T 0 ≤ fr ∧ to ≤ T (n - 1) ∧ fr ≤ to
    · obtain ⟨x1, x2, x3⟩ := hx
      have EN := endsC hv hp
      rcases hv with ⟨h0, -⟩ | ⟨h0, b, off, cap, rfl, h1, h2, h3⟩
      · have := hp.pos; omega
      · have hv : TV W (.slice (some ⟨b, off, none⟩) n cap) n T X Y H R B := Or.inr ⟨h0, b, off, cap, rfl, h1, h2, h3⟩
        have h2' : cap ≤ 9223372036854775807 := Nat.le_trans h2 (by decide)
        obtain ⟨lo, hi, CA⟩ := cut_ex hp fr to
        obtain ⟨b1, b2, b3, b4⟩ := cut_bds hp CA x1 x3 x2
        obtain ⟨i0, hi0⟩ := tseg_ex hp.pos x1
        obtain ⟨i2, hi2⟩ := tseg_ex hp.pos (show T 0 ≤ to by omega)
        have t0 := hp.time 0 hp.pos
        have tn := hp.time (n - 1) (by omega)
        have hp' := cut_tok hp CA x1 x3 x2 hi0 hi2
        obtain ⟨l1, l2, l3⟩ := cut_last hp CA x1 x3 x2
        have CW := fun (w1 : World) (hb : Below W.heap.size W w1) => cut_walk n cap b off lo hi T X Y H R B fr (tx T X i0 fr) (tx T Y i0 fr) (th T H i0 fr) (tu T R i0 fr) (tu T B i0 fr) to (tx T X i2 to) (tx T Y i2 to) (th T H i2 to) (tu T R i2 to) (tu T B i2 to) (T 0) (T (n - 1)) w1 h0 hp.small h1 h2' (Lib.hid fun k hk => s6_keep hb (h3 k hk)) (Lib.hid fun w2 hb2 => C w2 (b_next hb hb2)) (Lib.hid fun w2 hb2 => EN w2 (b_next hb hb2)) x1 x2 x3
          (Lib.hid fun w2 hb2 => atC (tv_keep (b_next hb hb2) hv) hp hi0 (by omega)) (Lib.hid fun w2 hb2 => atC (tv_keep (b_next hb hb2) hv) hp hi2 x2) (Lib.hid CA) b3 b4 CA.lon CA.hin
        have SC : CuC (.slice (some ⟨b, off, none⟩) n cap) (cutN fr to lo hi) (cutT T lo (1 + (hi - lo)) fr to) (cutT X lo (1 + (hi - lo)) (tx T X i0 fr) (tx T X i2 to)) (cutT Y lo (1 + (hi - lo)) (tx T Y i0 fr) (tx T Y i2 to)) (cutT H lo (1 + (hi - lo)) (th T H i0 fr) (th T H i2 to)) (cutT R lo (1 + (hi - lo)) (tu T R i0 fr) (tu T R i2 to)) (cutT B lo (1 + (hi - lo)) (tu T B i0 fr) (tu T B i2 to)) fr to W := fun w1 hb => by
          refine (CW w1 hb).mono ?_
          rintro e w' ⟨⟨v, he, ho⟩, hbw⟩
          obtain ⟨g, cap', rfl, -, -, hnc, hcm, hrow⟩ := own_row ho l2
          exact ⟨⟨g, cap', he, hnc, hcm, tf_tv l2 hnc hcm hrow⟩, hbw⟩
        have CK := (tck_zero _).2 hp'
        have e0 : cutT T lo (1 + (hi - lo)) fr to 0 = fr := cutT_zero ..
        have m1 := tm1000 t
        obtain ⟨u, hu⟩ : ∃ u, fr + t.tmod 1000 % 1000 = u := ⟨_, rfl⟩
        have hu0 : fr ≤ u := by omega
        by_cases hl : u ≤ to
        · obtain ⟨i, hs⟩ := tseg_ex hp.pos (show T 0 ≤ u by omega)
          obtain ⟨r, hr⟩ := tseg_ex hp'.pos (show cutT T lo (1 + (hi - lo)) fr to 0 ≤ u by rw [e0]; exact hu0)
          have A1 := fun (w1 : World) (hb : Below W.heap.size W w1) => tAt_ok (tv_keep hb hv) (tatE_ok hp (show T 0 ≤ u by omega) (show u ≤ T (n - 1) by omega)) hs
          have A2 := fun (w1 : World) (v : Value) (hv : TV w1 v _ _ _ _ _ _ _) => tAt_ok hv (tatE_ok hp' (show cutT T lo (1 + (hi - lo)) fr to 0 ≤ u by rw [e0]; exact hu0) (show u ≤ cutT T lo (1 + (hi - lo)) fr to (cutN fr to lo hi - 1) by rw [l1]; exact hl)) hr
          have p1 := at_bds hp hs (by omega)
          have p2 := at_bds hp' hr (by rw [l1]; exact hl)
          have cX := cut_th hp CA x1 x3 x2 hu0 hl hs hi0 hi2 hr X
          have cY := cut_th hp CA x1 x3 x2 hu0 hl hs hi0 hi2 hr Y
          have cH := cut_th hp CA x1 x3 x2 hu0 hl hs hi0 hi2 hr H
          have cR := cut_tu hp CA x1 x3 x2 hu0 hl hs hi0 hi2 hr R
          have cB := cut_tu hp CA x1 x3 x2 hu0 hl hs hi0 hi2 hr B
          change (_ → tx (cutT T lo (1 + (hi - lo)) fr to) (cutT X lo (1 + (hi - lo)) (tx T X i0 fr) (tx T X i2 to)) r u = tx T X i u) ∧ tx T X i u - 1 ≤ tx (cutT T lo (1 + (hi - lo)) fr to) (cutT X lo (1 + (hi - lo)) (tx T X i0 fr) (tx T X i2 to)) r u ∧ tx (cutT T lo (1 + (hi - lo)) fr to) (cutT X lo (1 + (hi - lo)) (tx T X i0 fr) (tx T X i2 to)) r u ≤ tx T X i u at cX
          change (_ → tx (cutT T lo (1 + (hi - lo)) fr to) (cutT Y lo (1 + (hi - lo)) (tx T Y i0 fr) (tx T Y i2 to)) r u = tx T Y i u) ∧ tx T Y i u - 1 ≤ tx (cutT T lo (1 + (hi - lo)) fr to) (cutT Y lo (1 + (hi - lo)) (tx T Y i0 fr) (tx T Y i2 to)) r u ∧ tx (cutT T lo (1 + (hi - lo)) fr to) (cutT Y lo (1 + (hi - lo)) (tx T Y i0 fr) (tx T Y i2 to)) r u ≤ tx T Y i u at cY
          have g1 := p1.1
          have g2 := p2.1
          unfold good at g1 g2
          by_cases hq : u = fr ∨ u = to
          · have hr' : cutT T lo (1 + (hi - lo)) fr to r = u := by
              have ct := cut_time hp CA x1 x3 x2 hr.1
              have := hr.2.1
              rcases hq with hq | hq
              · omega
              · rcases Nat.lt_or_ge (r + 1) (cutN fr to lo hi) with h | h
                · have := hr.2.2 h
                  have := cut_time hp CA x1 x3 x2 h
                  omega
                · rw [show r = cutN fr to lo hi - 1 from by have := hr.1; omega, l1, hq]
            rw [cX.1 hr', cY.1 hr', cH.1 hr', cR.1 hr', cB.1 hr'] at A2
            refine same n cap b off (cutN fr to lo hi) _ _ _ _ _ _ fr to t u _ _ _ _ _ W (Lib.hid SC) (Lib.hid CK) (Lib.hid e0) (Lib.hid l1) l2 l3 (by omega) (by omega) m1 hu (Lib.hid A1) (Lib.hid A2) (by omega) ?_
            rcases beqs u fr with h | h
            · exact Or.inl h
            · exact Or.inr ⟨h.1, h.2, beqs u to⟩
          · have f1 := (beqs u fr).resolve_left (fun h => hq (Or.inl (by simpa using h.1)))
            have f2 := (beqs u to).resolve_left (fun h => hq (Or.inr (by simpa using h.1)))
            exact near n cap b off (cutN fr to lo hi) _ _ _ _ _ _ fr to t u _ _ _ _ _ _ _ _ _ _ W (Lib.hid SC) (Lib.hid CK) (Lib.hid e0) (Lib.hid l1) l2 l3 (by omega) (by omega) m1 hu (Lib.hid A1) (Lib.hid A2) (by omega) (by omega) f1.1 f1.2 f2.1 f2.2
        · have hlate : cutT T lo (1 + (hi - lo)) fr to (cutN fr to lo hi - 1) < u := by rw [l1]; omega
          have A2 := fun (w1 : World) (v : Value) (hv : TV w1 v _ _ _ _ _ _ _) => tAt_bad hv (t := u) (by rw [tatE_late hp' hlate]; decide)
          rw [tatE_late hp' hlate] at A2
          by_cases hln : u ≤ T (n - 1)
          · obtain ⟨i, hs⟩ := tseg_ex hp.pos (show T 0 ≤ u by omega)
            have A1 := fun (w1 : World) (hb : Below W.heap.size W w1) => tAt_ok (tv_keep hb hv) (tatE_ok hp (show T 0 ≤ u by omega) hln) hs
            exact late n cap b off (cutN fr to lo hi) _ _ _ _ _ _ fr to t u _ _ _ _ _ _ _ _ _ _ _ _ 0 12 W (Lib.hid SC) (Lib.hid CK) (Lib.hid e0) (Lib.hid l1) l2 l3 (by omega) (by omega) m1 hu (Lib.hid A1) (Lib.hid A2) (Or.inr ⟨by decide, by decide, by decide, by decide⟩) (by omega)
          · have A1 := fun (w1 : World) (hb : Below W.heap.size W w1) => tAt_bad (tv_keep hb hv) (t := u) (by rw [tatE_late hp (by omega)]; decide)
            rw [tatE_late hp (by omega)] at A1
            exact late n cap b off (cutN fr to lo hi) _ _ _ _ _ _ fr to t u _ _ _ _ _ _ _ _ _ _ _ _ 12 12 W (Lib.hid SC) (Lib.hid CK) (Lib.hid e0) (Lib.hid l1) l2 l3 (by omega) (by omega) m1 hu (Lib.hid A1) (Lib.hid A2) (Or.inl ⟨by decide, by decide⟩) (by omega)
    · exact bad l fr to t 12 W (Lib.hid fun w1 hb => cut_no l fr to _ _ w1 (Lib.hid fun w2 hb2 => C w2 (b_next hb hb2)) (Lib.hid fun w2 hb2 => endsC hv hp w2 (b_next hb hb2)) (by omega)) (by decide) (by decide)
  · exact bad l fr to t _ W (Lib.hid fun w1 hb => cut_bad l fr to _ w1 (Lib.hid fun w2 hb2 => C w2 (b_next hb hb2)) (by simpa using hE) (by simpa using hE)) (by simpa using hE) (by simpa using hE)
-- FRAME --

set_option maxRecDepth 100000 in
theorem lifted (os : Os) (started : os.Started) (H : Type) (enc : TypeId × Value → H) :
    ReturnsInHanded {} Try.checked os 7 .any (Rows.tubeCutsSpec.pre6 enc Try.prog Try.f7 Rows.tubeCutsRow.domain false) (Rows.tubeCutsSpec.post enc Try.prog Try.f7 false true false false) :=
  Frame.lifted (C := Try.checked) 7 Try.f7 Try.own started (by kernel_rfl) Try.func7 Try.laidOut rfl (by kernel_rfl) 4 rfl Try.underlying4
      (fun ds h => by match ds, h with | [_, _, _, _], _ => rfl)
      (ChangeSpec.witness6 (enc := enc) (C := Try.checked) false ⟨#[], #[.slice none 0 0, .int .i64 0, .int .i64 0, .int .i64 0], []⟩ 8 (by kernel_rfl) (by kernel_rfl) (by kernel_rfl) (by kernel_rfl))
      (fun W base args ds ps hval0 hA _ => by
        have hval : ∀ (j : Nat) t v, Try.f7.params[j]? = some t → args[j]? = some v → Value.okWide Try.prog W .any base t v := hval0
        have hA' : DataW.TrodAll enc Try.prog W 0 (fun _ => true) true Try.f7.params.toList args.toList ds ps := hA
        clear hval0 hA
        have hA := hA'
        clear hA'
        rw [Try.params7] at hA hval
        obtain ⟨v0, vs0, d0, ds0, p0, q0, ea, rfl, rfl, tr0, rest0⟩ := trodAll_cons hA
        obtain ⟨v1, vs1, d1, ds1, p1, q1, rfl, rfl, rfl, tr1, rest1⟩ := trodAll_cons rest0
        obtain ⟨v2, vs2, d2, ds2, p2, q2, rfl, rfl, rfl, tr2, rest2⟩ := trodAll_cons rest1
        obtain ⟨v3, vs3, d3, ds3, p3, q3, rfl, rfl, rfl, tr3, rest3⟩ := trodAll_cons rest2
        obtain ⟨rfl, rfl, rfl⟩ := trodAll_nil rest3
        obtain rfl : args = #[v0, v1, v2, v3] := by cases args; simp_all
        clear ea
        have sl_l : Frame.Okc W (.sl [.int, .int, .int, .int, .int, .int]) v0 := by obtain ⟨a, l, c, e⟩ := okWide_slice Try.underlying45 (hval 0 _ v0 rfl rfl); exact Frame.arg_cell (k := 8) (by kernel_rfl) (by have e2 : v0 = .slice a l c := e; rw [e2]; rfl) tr0
        obtain ⟨fr, rfl, w_fr⟩ := Frame.arg_int Try.underlying3 (hval 1 _ v1 rfl rfl)
        obtain ⟨to, rfl, w_to⟩ := Frame.arg_int Try.underlying3 (hval 2 _ v2 rfl rfl)
        obtain ⟨t, rfl, w_t⟩ := Frame.arg_int Try.underlying3 (hval 3 _ v3 rfl rfl)
        exact walk v0 fr to t W sl_l (Frame.bd w_fr) (Frame.bd w_to) (Frame.bd w_t))

/-- The statement. -/
theorem proved : Rows.TubeCutsSaid :=
  OpenClaim.holds_of_wide 7 Try.f7 rfl rfl rfl rfl rfl rfl rfl ⟨rfl, rfl, rfl, rfl, rfl⟩ rfl rfl rfl rfl rfl (by kernel_rfl) Try.func7 (by kernel_rfl)
    (of_decide_eq_true (by kernel_rfl)) (by unfold Func.isWrapper; first | (rw [if_pos (by decide +kernel)]; kernel_rfl) | (rw [if_neg (by decide +kernel)]; exact ⟨rfl, rfl⟩))
    (fun os started H enc _ => lifted os started H enc)
#print axioms proved
end TubeCuts
end Go.Proofs.Ytampbjbalenckaa

