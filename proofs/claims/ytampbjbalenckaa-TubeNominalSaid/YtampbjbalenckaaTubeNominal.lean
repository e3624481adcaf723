/- TubeNominal: a tube contains the path of which it was made, and points within its radius. For every input. -/
import Derived.Test.YtampbjbalenckaaTubeW
import Derived.Test.YtampbjbalenckaaPathV
namespace Go.Proofs.Ytampbjbalenckaa
open Go.RowKit Go.ChangeShapes Go.WideShapes
namespace TubeNominal
open Kit Plane Path Tube
theorem c4_far {w : World} {b : Nat} {t x y h : Int} (a : Addr) (u : Value) (hne : a.block ≠ b) (hh : C4 w b t x y h) : C4 (w.setCell a u) b t x y h :=
  ⟨⟨cfar _ (fun e => hne (by rw [e])) hh.1.1, cfar _ (fun e => hne (by rw [e])) hh.1.2⟩, cfar _ (fun e => hne (by rw [e])) hh.2.1, cfar _ (fun e => hne (by rw [e])) hh.2.2⟩
theorem s6_far {w : World} {b o : Nat} {t x y h r d : Int} (a : Addr) (u : Value) (hne : a.block ≠ b) (hh : S6 w b o t x y h r d) : S6 (w.setCell a u) b o t x y h r d :=
  ⟨⟨cfar _ (fun e => hne (by rw [e])) hh.1.1, cfar _ (fun e => hne (by rw [e])) hh.1.2.1, cfar _ (fun e => hne (by rw [e])) hh.1.2.2⟩, cfar _ (fun e => hne (by rw [e])) hh.2.1, cfar _ (fun e => hne (by rw [e])) hh.2.2.1, cfar _ (fun e => hne (by rw [e])) hh.2.2.2⟩
theorem tv_far {w : World} {q n cap : Nat} {T X Y H R B : Nat → Int} (a : Addr) (u : Value) (hne : a.block ≠ q) (h : TV w (.slice (some ⟨q, 0, none⟩) n cap) n T X Y H R B) : TV (w.setCell a u) (.slice (some ⟨q, 0, none⟩) n cap) n T X Y H R B := by
  rcases h with h | ⟨h0, b, off, cap', hv, h1, h2, h3⟩
  · exact Or.inl h
  · injection hv with e1 e2 e3
    injection e1 with e1
    injection e1 with e1 e4
    subst e1
    exact Or.inr ⟨h0, q, off, cap', by rw [e3, e4], h1, h2, fun k hk => s6_far a u hne (h3 k hk)⟩
set_option maxHeartbeats 1000000 in
theorem bad (v : Value) (r g d t bx by' E : Int) (w : World) (C : Hid (∀ w1, Below w.heap.size w w1 → Calls Try.prog 29 #[v, .int .i64 r, .int .i64 g, .int .i64 d] w1 fun e w' => e = .returned (.tuple #[.slice none 0 0, .int .i64 E]) ∧ Below w1.heap.size w1 w')) (_hE1 : (E == 0) = false) (hE2 : (E != 0) = true) :
    Calls Try.prog 9 #[v, .int .i64 r, .int .i64 g, .int .i64 d, .int .i64 t, .agg #[.int .i64 bx, .int .i64 by']] w fun e w' => e = .returned (.bool true) ∧ Below w.heap.size w w' := by
  go_enter Try.func9, Try.ntmps9
  have HW0 := Lib.hid (b_alloc (Below.refl w.heap.size w) (.cells #[.int .i64 bx, .int .i64 by'] 26))
  go_wp2_with fail
  refine (tubeWorks _).mono ?_; rintro e w1 ⟨rfl, h⟩
  have hw := b_next HW0.out h; clear h
  go_wp2_with fail
  refine (C.out _ hw).mono ?_; rintro e w2 ⟨rfl, hb⟩
  replace hw := b_next hw hb; clear hb
  go_wp2_with fail
  go_ret
  exact ⟨retb rfl, hw⟩
set_option maxRecDepth 100000 in
set_option maxHeartbeats 2000000 in
theorem late (n cap b off : Nat) (T X Y H R B : Nat → Int) (r g d t bx by' u : Int) (E : Int) (w : World) (h0 : 0 < n) (hn : n ≤ 64) (_hc : n ≤ cap) (_hm : cap ≤ 9223372036854775807) (HV : Hid (∀ k, k < n → Path.N4 w b off k (T k) (X k) (Y k) (H k)))
    (C : Hid (∀ w1, Below w.heap.size w w1 → Calls Try.prog 29 #[.slice (some ⟨b, off, none⟩) n cap, .int .i64 r, .int .i64 g, .int .i64 d] w1 fun e w' => ∃ q cap', e = .returned (.tuple #[.slice (some ⟨q, 0, none⟩) n cap', .int .i64 0]) ∧ w1.heap.size ≤ q ∧ TV w' (.slice (some ⟨q, 0, none⟩) n cap') n T X Y H R B ∧ Below w1.heap.size w1 w'))
    (b0 : 0 ≤ T 0 ∧ T 0 ≤ 200000) (b1 : -999 ≤ t.tmod 1000 ∧ t.tmod 1000 ≤ 999) (hu : T 0 + t.tmod 1000 % 1000 = u)
    (A1 : Hid (∀ w1, Below w.heap.size w w1 → Calls Try.prog 16 #[.slice (some ⟨b, off, none⟩) n cap, .int .i64 u] w1 fun e w' => e = .returned (.tuple #[.agg #[.int .i64 0, .int .i64 0, .int .i64 0, .int .i64 0], .int .i64 E]) ∧ Below w1.heap.size w1 w'))
    (H1 : Hid (∀ w1 v, TV w1 v n T X Y H R B → Calls Try.prog 30 #[v, .int .i64 u, .agg #[.int .i64 0, .int .i64 0], .int .i64 0] w1 fun e w' => e = .returned (.tuple #[.bool false, .int .i64 E]) ∧ Below w1.heap.size w1 w')) (_hE1 : (E == 0) = false) (hE2 : (E != 0) = true) :
    Calls Try.prog 9 #[.slice (some ⟨b, off, none⟩) n cap, .int .i64 r, .int .i64 g, .int .i64 d, .int .i64 t, .agg #[.int .i64 bx, .int .i64 by']] w fun e w' => e = .returned (.bool true) ∧ Below w.heap.size w w' := by
  go_enter Try.func9, Try.ntmps9
  have HP := Lib.hid (b2_new w 26 bx by')
  have HW0 := Lib.hid (b_alloc (Below.refl w.heap.size w) (.cells #[.int .i64 bx, .int .i64 by'] 26))
  obtain ⟨K, hK⟩ : ∃ K, K = w.heap.size := ⟨_, rfl⟩
  go_wp2_with fail
  (with_reducible refine (tubeWorks _).mono ?_); rintro e w1 ⟨rfl, h⟩
  have p1 := b2_keep h HP.out; have hw1 := b_next HW0.out h; clear h
  go_wp2_with fail
  (with_reducible refine (C.out _ hw1).mono ?_); rintro e w2 ⟨q, cap', rfl, hq, hv, h⟩
  have p2 := b2_keep h p1; have hw2 := b_next hw1 h; clear h
  have hkq : w.heap.size ≠ q := by have h' : w.heap.size < w1.heap.size := lt_of_cell p1.1.1; omega
  obtain ⟨⟨c0, -⟩, -⟩ := n4_keep hw2 (HV.out 0 h0)
  rw [Nat.zero_mul, Nat.add_zero] at c0
  have i0 : (0 : Int) < (n : Int) := by omega
  have P2' := Lib.hid p2; have V2 := Lib.hid hv; have W2 := Lib.hid hw2; clear p1 hw1 p2 hv
  go_wp2_with fail
  (with_reducible refine (A1.out _ W2.out).mono ?_); rintro e w3 ⟨rfl, h⟩
  have hv3 := tv_keep h V2.out; have hw3 := b_next W2.out h; clear h
  have V3 := Lib.hid (tv_keep (b_alloc (Below.refl w3.heap.size w3) (.cells #[.int .i64 0, .int .i64 0, .int .i64 0, .int .i64 0] 28)) hv3); have W3 := Lib.hid (b_alloc hw3 (.cells #[.int .i64 0, .int .i64 0, .int .i64 0, .int .i64 0] 28)); clear hv3 hw3
  go_wp2_with fail
  (with_reducible refine (H1.out _ _ V3.out).mono ?_); rintro e w4 ⟨rfl, h⟩
  have hw4 := b_next W3.out h; clear h
  go_wp2_with fail
  go_ret
  exact ⟨retb rfl, hw4⟩
set_option maxRecDepth 100000 in
set_option maxHeartbeats 4000000 in
theorem good (n cap b off : Nat) (T X Y H R B : Nat → Int) (r g d t bx by' x' y' u : Int) (px py ph pr pb E : Int) (iw : Bool) (w : World) (h0 : 0 < n) (hn : n ≤ 64) (_hc : n ≤ cap) (_hm : cap ≤ 9223372036854775807) (HV : Hid (∀ k, k < n → Path.N4 w b off k (T k) (X k) (Y k) (H k)))
    (C : Hid (∀ w1, Below w.heap.size w w1 → Calls Try.prog 29 #[.slice (some ⟨b, off, none⟩) n cap, .int .i64 r, .int .i64 g, .int .i64 d] w1 fun e w' => ∃ q cap', e = .returned (.tuple #[.slice (some ⟨q, 0, none⟩) n cap', .int .i64 0]) ∧ w1.heap.size ≤ q ∧ TV w' (.slice (some ⟨q, 0, none⟩) n cap') n T X Y H R B ∧ Below w1.heap.size w1 w'))
    (b0 : 0 ≤ T 0 ∧ T 0 ≤ 200000) (b1 : -999 ≤ t.tmod 1000 ∧ t.tmod 1000 ≤ 999) (hu : T 0 + t.tmod 1000 % 1000 = u)
    (A1 : Hid (∀ w1, Below w.heap.size w w1 → Calls Try.prog 16 #[.slice (some ⟨b, off, none⟩) n cap, .int .i64 u] w1 fun e w' => e = .returned (.tuple #[.agg #[.int .i64 u, .int .i64 px, .int .i64 py, .int .i64 ph], .int .i64 0]) ∧ Below w1.heap.size w1 w'))
    (H1 : Hid (∀ w1 v, TV w1 v n T X Y H R B → Calls Try.prog 30 #[v, .int .i64 u, .agg #[.int .i64 px, .int .i64 py], .int .i64 ph] w1 fun e w' => e = .returned (.tuple #[.bool true, .int .i64 0]) ∧ Below w1.heap.size w1 w'))
    (A2 : Hid (∀ w1 v, TV w1 v n T X Y H R B → Calls Try.prog 22 #[v, .int .i64 u] w1 fun e w' => e = .returned (.tuple #[.agg #[.int .i64 u, .int .i64 px, .int .i64 py, .int .i64 ph, .int .i64 pr, .int .i64 pb], .int .i64 0]) ∧ Below w1.heap.size w1 w'))
    (H2 : Hid (∀ w1 v, TV w1 v n T X Y H R B → Calls Try.prog 30 #[v, .int .i64 u, .agg #[.int .i64 (px + x'), .int .i64 (py + y')], .int .i64 ph] w1 fun e w' => e = .returned (.tuple #[.bool iw, .int .i64 E]) ∧ Below w1.heap.size w1 w'))
    (hx : bx.tmod 1000 = x') (hy : by'.tmod 1000 = y') (hr : ¬ pr < r) (bp : -1000000 ≤ px ∧ px ≤ 1000000 ∧ -1000000 ≤ py ∧ py ≤ 1000000) (bd : -999 ≤ x' ∧ x' ≤ 999 ∧ -999 ≤ y' ∧ y' ≤ 999) (m1 : 0 ≤ x' * x' ∧ x' * x' ≤ 1000000) (m2 : 0 ≤ y' * y' ∧ y' * y' ≤ 1000000) (m3 : 0 ≤ pr * pr ∧ pr * pr ≤ 1000000000000)
    (hE : (E ≠ 0 ∧ (E != 0) = true ∧ (E == 0) = false) ∨ (E = 0 ∧ iw = decide (x' * x' + y' * y' ≤ pr * pr))) :
    Calls Try.prog 9 #[.slice (some ⟨b, off, none⟩) n cap, .int .i64 r, .int .i64 g, .int .i64 d, .int .i64 t, .agg #[.int .i64 bx, .int .i64 by']] w fun e w' => e = .returned (.bool true) ∧ Below w.heap.size w w' := by
  have ADD : Hid (∀ w : World, Calls Try.prog 31 #[.agg #[.int .i64 px, .int .i64 py], .agg #[.int .i64 x', .int .i64 y']] w fun e w' => e = .returned (.agg #[.int .i64 (px + x'), .int .i64 (py + y')]) ∧ Below w.heap.size w w') := Lib.hid fun w => by
    have := add px py x' y' w
    rw [show wrap64 (px + x') = px + x' from IntWalk.wrap64_in _ (by omega), show wrap64 (py + y') = py + y' from IntWalk.wrap64_in _ (by omega)] at this
    exact this
  go_enter Try.func9, Try.ntmps9
  have HP := Lib.hid (b2_new w 26 bx by')
  have HW0 := Lib.hid (b_alloc (Below.refl w.heap.size w) (.cells #[.int .i64 bx, .int .i64 by'] 26))
  obtain ⟨K, hK⟩ : ∃ K, K = w.heap.size := ⟨_, rfl⟩
  go_wp2_with fail
  (with_reducible refine (tubeWorks _).mono ?_); rintro e w1 ⟨rfl, h⟩
  have p1 := b2_keep h HP.out; have hw1 := b_next HW0.out h; clear h
  go_wp2_with fail
  (with_reducible refine (C.out _ hw1).mono ?_); rintro e w2 ⟨q, cap', rfl, hq, hv, h⟩
  have p2 := b2_keep h p1; have hw2 := b_next hw1 h; clear h
  have hkq : w.heap.size ≠ q := by have h' : w.heap.size < w1.heap.size := lt_of_cell p1.1.1; omega
  obtain ⟨⟨c0, -⟩, -⟩ := n4_keep hw2 (HV.out 0 h0)
  rw [Nat.zero_mul, Nat.add_zero] at c0
  have i0 : (0 : Int) < (n : Int) := by omega
  have P2' := Lib.hid p2; have V2 := Lib.hid hv; have W2 := Lib.hid hw2; clear p1 hw1 p2 hv
  go_wp2_with fail
  (with_reducible refine (A1.out _ W2.out).mono ?_); rintro e w3 ⟨rfl, h⟩
  have hv3 := tv_keep h V2.out; have hw3 := b_next W2.out h; have hp3 := b2_keep h P2'.out; clear h
  have V3 := Lib.hid (tv_keep (b_alloc (Below.refl w3.heap.size w3) (.cells #[.int .i64 u, .int .i64 px, .int .i64 py, .int .i64 ph] 28)) hv3); have W3 := Lib.hid (b_alloc hw3 (.cells #[.int .i64 u, .int .i64 px, .int .i64 py, .int .i64 ph] 28))
  have P3 := Lib.hid (b2_alloc (.cells #[.int .i64 u, .int .i64 px, .int .i64 py, .int .i64 ph] 28) hp3); have C3 := Lib.hid (c4_new w3 28 u px py ph)
  have hk3 : ¬ w.heap.size = w3.heap.size := by have h' : w.heap.size < w3.heap.size := lt_of_cell hp3.1.1; omega
  clear hv3 hw3 hp3
  go_wp2_with fail
  (with_reducible refine (H1.out _ _ V3.out).mono ?_); rintro e w4 ⟨rfl, h⟩
  have V4 := Lib.hid (tv_keep h V3.out); have W4 := Lib.hid (b_next W3.out h); have P4 := Lib.hid (b2_keep h P3.out); have C4' := Lib.hid (c4_keep h C3.out); clear h
  go_wp2_with fail
  (with_reducible refine (A2.out _ _ V4.out).mono ?_); rintro e w5 ⟨rfl, h⟩
  have hv5 := tv_keep h V4.out; have hw5 := b_next W4.out h; have hp5 := b2_keep h P4.out; have hc5 := c4_keep h C4'.out; clear h
  have n5 := new_ne hp5.1.1; have n5' := new_ne hc5.1.1
  have V5 := Lib.hid hv5; have W5 := Lib.hid hw5; clear hv5 hw5
  go_wp2_with fail
  have sz : ((w5.setCell ⟨w.heap.size, 0, none⟩ (.int .i64 x')).setCell ⟨w.heap.size, 1, none⟩ (.int .i64 y')).heap.size = w5.heap.size := by simp
  have pS := b2_set1 y' (b2_set0 x' hp5)
  have vS := tv_far ⟨w.heap.size, 1, none⟩ (.int .i64 y') hkq (tv_far ⟨w.heap.size, 0, none⟩ (.int .i64 x') hkq V5.out)
  have wS := b_set (b_set W5.out (p := ⟨w.heap.size, 0, none⟩) (Nat.le_refl _) (.int .i64 x')) (p := ⟨w.heap.size, 1, none⟩) (Nat.le_refl _) (.int .i64 y')
  have cS := c4_far ⟨w.heap.size, 1, none⟩ (.int .i64 y') hk3 (c4_far ⟨w.heap.size, 0, none⟩ (.int .i64 x') hk3 hc5)
  have dS := d6_new ((w5.setCell ⟨w.heap.size, 0, none⟩ (.int .i64 x')).setCell ⟨w.heap.size, 1, none⟩ (.int .i64 y')) 47 u px py ph pr pb
  rw [sz] at dS
  (with_reducible refine (ADD.out _).mono ?_); rintro e w6 ⟨rfl, h⟩
  have p6 := b2_keep h (b2_alloc (.cells #[.int .i64 u, .int .i64 px, .int .i64 py, .int .i64 ph, .int .i64 pr, .int .i64 pb] 47) pS); have v6 := tv_keep h (tv_keep (b_alloc (Below.refl _ _) (.cells #[.int .i64 u, .int .i64 px, .int .i64 py, .int .i64 ph, .int .i64 pr, .int .i64 pb] 47)) vS); have w6' := b_next (b_alloc wS (.cells #[.int .i64 u, .int .i64 px, .int .i64 py, .int .i64 ph, .int .i64 pr, .int .i64 pb] 47)) h; have d6 := d6_keep h dS; have c6 := c4_keep h (c4_alloc (.cells #[.int .i64 u, .int .i64 px, .int .i64 py, .int .i64 ph, .int .i64 pr, .int .i64 pb] 47) cS)
  clear h pS vS wS dS cS sz hp5 hc5 n5 n5'
  have P7 := Lib.hid (b2_alloc (.cells #[.int .i64 (px + x'), .int .i64 (py + y')] 26) p6); have V7 := Lib.hid (tv_keep (b_alloc (Below.refl w6.heap.size w6) (.cells #[.int .i64 (px + x'), .int .i64 (py + y')] 26)) v6); have W7 := Lib.hid (b_alloc w6' (.cells #[.int .i64 (px + x'), .int .i64 (py + y')] 26)); have D7 := Lib.hid (d6_keep (b_alloc (Below.refl w6.heap.size w6) (.cells #[.int .i64 (px + x'), .int .i64 (py + y')] 26)) d6)
  have n6 := new_ne c6.1.1
  clear p6 v6 w6' d6
  go_wp2_with fail
  (with_reducible refine (H2.out _ _ V7.out).mono ?_); rintro e w8 ⟨rfl, h⟩
  have p8 := b2_keep h P7.out; have w8' := b_next W7.out h; have d8 := d6_keep h D7.out; clear h
  obtain ⟨⟨p80, p81⟩, -, -⟩ := p8
  obtain ⟨-, -, d84, -⟩ := d8
  rcases hE with ⟨e1, e2, e3⟩ | ⟨rfl, rfl⟩
  · go_wp2_with fail
    go_ret
    exact ⟨retb rfl, w8'⟩
  · go_wp2_with fail
    go_ret
    exact ⟨retb (by simp), w8'⟩
theorem tok_of {T X Y H : Nat → Int} {n : Nat} {r g d : Int} (ok : OfOk T X Y H n r g d) (hw : r + wid T g (n - 1) ≤ 1000000) : tok T X Y H (fun k => r + wid T g k) (fun _ => d) n := by
  refine ⟨ok.path.1, ok.path.2.1, fun k hk => ?_, fun k hk => (ok.path.2.2.1 k hk).2.2.1, fun k hk => ⟨?_, ?_, ok.ban⟩, ok.path.2.2.2⟩
  · have := ok.path.2.2.1 k hk; exact ⟨this.1, this.2.1⟩
  · have := ok.path.2.2.1 k hk; exact ⟨this.2.2.2.1, this.2.2.2.2⟩
  · have := wid_bd ok hk; have := ok.rad; omega
theorem hasB_same {T X Y H R B : Nat → Int} {n i : Nat} {u : Int} (hp : tok T X Y H R B n) (hs : tseg T n u i) (hl : u ≤ T (n - 1)) : hasB T X Y H R B i u (tx T X i u) (tx T Y i u) (th T H i u) = true := by
  have bd := at_bds hp hs hl
  have m := sq_nonneg (tu T R i u)
  unfold hasB inB sqr
  rw [Int.sub_self, Int.sub_self, Int.sub_self]
  simp only [Bool.and_eq_true, decide_eq_true_eq]
  exact ⟨⟨bd.2.2.1.1, by omega, by omega⟩, by omega⟩
theorem hasB_near {T X Y H R B : Nat → Int} {n i : Nat} {u x y : Int} (hp : tok T X Y H R B n) (hs : tseg T n u i) (hl : u ≤ T (n - 1)) : hasB T X Y H R B i u (tx T X i u + x) (tx T Y i u + y) (th T H i u) = decide (x * x + y * y ≤ tu T R i u * tu T R i u) := by
  have bd := at_bds hp hs hl
  unfold hasB inB sqr
  rw [Int.sub_self, show tx T X i u - (tx T X i u + x) = -x from by omega, show tx T Y i u - (tx T Y i u + y) = -y from by omega, Int.neg_mul_neg, Int.neg_mul_neg, Bool.eq_iff_iff]
  simp only [Bool.and_eq_true, decide_eq_true_eq]
  exact ⟨fun h => h.1.2.2, fun h => ⟨⟨bd.2.2.1.1, by omega, h⟩, by omega⟩⟩
theorem tatE_ok {T X Y H R B : Nat → Int} {n : Nat} {u : Int} (hp : tok T X Y H R B n) (h0 : T 0 ≤ u) (h1 : u ≤ T (n - 1)) : tatE T X Y H R B n u = 0 := by
  unfold tatE; rw [(tck_zero n).2 hp, if_neg (by omega), if_neg (by omega)]
theorem hasE_ok {T X Y H R B : Nat → Int} {n : Nat} {u qx qy hh : Int} (hp : tok T X Y H R B n) (h0 : T 0 ≤ u) (h1 : u ≤ T (n - 1)) (hq : chk qx qy = 0) (hh0 : 0 ≤ hh ∧ hh ≤ 60000) : hasE T X Y H R B n u qx qy hh = 0 := by
  unfold hasE; rw [tatE_ok hp h0 h1, if_neg (by omega), if_neg (by omega)]
theorem tm1000 (x : Int) : -999 ≤ x.tmod 1000 ∧ x.tmod 1000 ≤ 999 := by
  have := (Num.tdiv_facts x 1000 (by omega)).2.2.2.1 (by omega); omega
theorem walk (l : Value) (radius : Int) (growth : Int) (band : Int) (t : Int) (by_x : Int) (by_y : Int) (W : World) (h_l : Frame.Okc W (.sl [.int, .int, .int, .int]) l) (_h_radius : -9223372036854775808 ≤ radius ∧ radius ≤ 9223372036854775807) (_h_growth : -9223372036854775808 ≤ growth ∧ growth ≤ 9223372036854775807) (_h_band : -9223372036854775808 ≤ band ∧ band ≤ 9223372036854775807) (_h_t : -9223372036854775808 ≤ t ∧ t ≤ 9223372036854775807) (_h_by_x : -9223372036854775808 ≤ by_x ∧ by_x ≤ 9223372036854775807) (_h_by_y : -9223372036854775808 ≤ by_y ∧ by_y ≤ 9223372036854775807) :
    Calls Try.prog 9 #[l, .int .i64 radius, .int .i64 growth, .int .i64 band, .int .i64 t, .agg #[.int .i64 by_x, .int .i64 by_y]] W fun e w' => e = .returned (.bool true) ∧ Below W.heap.size W w' := by
  obtain ⟨n, T, X, Y, H, hv⟩ := pv_of h_l
  by_cases hE : ofE T X Y H n radius growth band = 0
  · obtain ⟨ok, hwn⟩ := ofE_zero hE
    have hp := tok_of ok hwn
    have C := fun (w1 : World) (hb : Below W.heap.size W w1) => (of_ok (pv_keep (w1 := w1) hb hv) hE).mono fun e w' hh => by
      obtain ⟨q, cap, he, h1, h2, h3, h4, h5⟩ := hh
      exact (⟨q, cap, he, h4, tv_row ok.path.1 h1 h2 h3, h5⟩ : ∃ q cap', e = .returned (.tuple #[.slice (some ⟨q, 0, none⟩) n cap', .int .i64 0]) ∧ w1.heap.size ≤ q ∧ TV w' (.slice (some ⟨q, 0, none⟩) n cap') n T X Y H (fun k => radius + wid T growth k) (fun _ => band) ∧ Below w1.heap.size w1 w')
    generalize hR : (fun k => radius + wid T growth k) = R at hp C
    generalize hB : (fun _ : Nat => band) = B at hp C
    have b1 : -999 ≤ t.tmod 1000 ∧ t.tmod 1000 ≤ 999 := tm1000 t
    have c1 : -999 ≤ by_x.tmod 1000 ∧ by_x.tmod 1000 ≤ 999 := tm1000 by_x
    have c2 : -999 ≤ by_y.tmod 1000 ∧ by_y.tmod 1000 ≤ 999 := tm1000 by_y
    have b0 := hp.time 0 hp.pos
    obtain ⟨u, hu⟩ : ∃ u, T 0 + t.tmod 1000 % 1000 = u := ⟨_, rfl⟩
    obtain ⟨x', hx⟩ : ∃ x', by_x.tmod 1000 = x' := ⟨_, rfl⟩
    obtain ⟨y', hy⟩ : ∃ y', by_y.tmod 1000 = y' := ⟨_, rfl⟩
    have hu0 : T 0 ≤ u := by omega
    rcases hv with ⟨hn, -⟩ | ⟨hn, b, off, cap, rfl, h1, h2, h3⟩
    · have := hp.pos; omega
    · have hv : PV W (.slice (some ⟨b, off, none⟩) n cap) n T X Y H := Or.inr ⟨hn, b, off, cap, rfl, h1, h2, h3⟩
      have h2' : cap ≤ 9223372036854775807 := Nat.le_trans h2 (by decide)
      by_cases hl : u ≤ T (n - 1)
      · obtain ⟨i, hs⟩ := tseg_ex hp.pos hu0
        have bd := at_bds hp hs hl
        have hA : atE T X Y H n u = 0 := by unfold atE; rw [(pchk_zero n).2 ok.path, if_neg (by omega), if_neg (by omega)]
        have A1 := fun (w1 : World) (hb : Below W.heap.size W w1) => fly_At_ok (pv_keep (w1 := w1) hb hv) hA hs
        have A2 := fun (w1 : World) (v : Value) (hv : TV w1 v n T X Y H R B) => tAt_ok hv (tatE_ok hp hu0 hl) hs
        have H1 := fun (w1 : World) (v : Value) (hv : TV w1 v n T X Y H R B) => has_ok hv (hasE_ok hp hu0 hl (chk_ok bd.1) bd.2.1) hs
        rw [hasB_same hp hs hl] at H1
        have hr : ¬ tu T R i u < radius := by
          have rr : ∀ k, k < n → radius ≤ R k := fun k hk => by rw [← hR]; have := wid_bd ok hk; show radius ≤ radius + wid T growth k; omega
          by_cases he : T i = u
          · subst he; rw [tu_at]; have := rr i hs.1; omega
          · have hin : i + 1 < n := by
              rcases Nat.lt_or_ge (i + 1) n with h | h
              · exact h
              · have e : i = n - 1 := by have := hs.1; omega
                have := hs.2.1
                rw [e] at this he; omega
            have hle := hs.2.1; have hlt := hs.2.2 hin
            have d2 := up_bd (d := R (i + 1) - R i) (n := u - T i) (N := T (i + 1) - T i) (by omega) (by omega) (by omega)
            have r0 := rr i hs.1; have r1 := rr (i + 1) hin
            unfold tu; omega
        have m1 := sq_nonneg x'; have m2 := sq_nonneg y'; have m3 := sq_nonneg (tu T R i u)
        have n1 := sq_le_of (x := x') (M := 1000) (by omega); have n2 := sq_le_of (x := y') (M := 1000) (by omega); have n3 := sq_le_of (x := tu T R i u) (M := 1000000) (by omega)
        have gp := bd.1
        unfold Plane.good at gp
        rcases chk_two (tx T X i u + x') (tx T Y i u + y') with hq | hq
        · have H2 := fun (w1 : World) (v : Value) (hv : TV w1 v n T X Y H R B) => has_ok hv (hasE_ok hp hu0 hl hq bd.2.1) hs
          rw [hasB_near hp hs hl] at H2
          exact good n cap b off T X Y H R B radius growth band t by_x by_y x' y' u (tx T X i u) (tx T Y i u) (th T H i u) (tu T R i u) (tu T B i u) 0 _ W hn hp.small h1 h2' (Lib.hid h3) (Lib.hid C) b0 b1 hu (Lib.hid A1) (Lib.hid H1) (Lib.hid A2) (Lib.hid H2) hx hy hr (by omega) (by omega) (by omega) (by omega) (by omega) (Or.inr ⟨rfl, rfl⟩)
        · have he : hasE T X Y H R B n u (tx T X i u + x') (tx T Y i u + y') (th T H i u) = 4 := by
            unfold hasE; rw [tatE_ok hp hu0 hl, if_neg (by omega), if_pos (by omega)]
          have H2 := fun (w1 : World) (v : Value) (hv : TV w1 v n T X Y H R B) => has_bad hv (u := u) (qx := tx T X i u + x') (qy := tx T Y i u + y') (hh := th T H i u) (by rw [he]; decide)
          rw [he] at H2
          exact good n cap b off T X Y H R B radius growth band t by_x by_y x' y' u (tx T X i u) (tx T Y i u) (th T H i u) (tu T R i u) (tu T B i u) 4 _ W hn hp.small h1 h2' (Lib.hid h3) (Lib.hid C) b0 b1 hu (Lib.hid A1) (Lib.hid H1) (Lib.hid A2) (Lib.hid H2) hx hy hr (by omega) (by omega) (by omega) (by omega) (by omega) (Or.inl ⟨by decide, by decide, by decide⟩)
      · have hA : atE T X Y H n u = 12 := by unfold atE; rw [(pchk_zero n).2 ok.path, if_neg (by omega), if_pos (by omega)]
        have hT : tatE T X Y H R B n u = 12 := by unfold tatE; rw [(tck_zero n).2 hp, if_neg (by omega), if_pos (by omega)]
        have hH : hasE T X Y H R B n u 0 0 0 = 12 := by unfold hasE; rw [hT, if_pos (by decide)]
        have A1 := fun (w1 : World) (hb : Below W.heap.size W w1) => fly_At_bad (pv_keep (w1 := w1) hb hv) (t := u) (by rw [hA]; decide)
        rw [hA] at A1
        have H1 := fun (w1 : World) (v : Value) (hv : TV w1 v n T X Y H R B) => has_bad hv (u := u) (qx := 0) (qy := 0) (hh := 0) (by rw [hH]; decide)
        rw [hH] at H1
        exact late n cap b off T X Y H R B radius growth band t by_x by_y u 12 W hn hp.small h1 h2' (Lib.hid h3) (Lib.hid C) b0 b1 hu (Lib.hid A1) (Lib.hid H1) (by decide) (by decide)
  · have C := fun (w1 : World) (hb : Below W.heap.size W w1) => of_bad (pv_keep (w1 := w1) hb hv) hE
    exact bad l radius growth band t by_x by_y _ W (Lib.hid C) (by simpa using hE) (by simpa using hE)
-- FRAME --

set_option maxRecDepth 100000 in
theorem lifted (os : Os) (started : os.Started) (H : Type) (enc : TypeId × Value → H) :
    ReturnsInHanded {} Try.checked os 9 .any (Rows.tubeNominalSpec.pre6 enc Try.prog Try.f9 Rows.tubeNominalRow.domain false) (Rows.tubeNominalSpec.post enc Try.prog Try.f9 false true false false) :=
  Frame.lifted (C := Try.checked) 9 Try.f9 Try.own started (by kernel_rfl) Try.func9 Try.laidOut rfl (by kernel_rfl) 4 rfl Try.underlying4
      (fun ds h => by match ds, h with | [_, _, _, _, _, _], _ => rfl)
      (ChangeSpec.witness6 (enc := enc) (C := Try.checked) false ⟨#[], #[.slice none 0 0, .int .i64 0, .int .i64 0, .int .i64 0, .int .i64 0, .agg #[.int .i64 0, .int .i64 0]], []⟩ 8 (by kernel_rfl) (by kernel_rfl) (by kernel_rfl) (by kernel_rfl))
      (fun W base args ds ps hval0 hA _ => by
        have hval : ∀ (j : Nat) t v, Try.f9.params[j]? = some t → args[j]? = some v → Value.okWide Try.prog W .any base t v := hval0
        have hA' : DataW.TrodAll enc Try.prog W 0 (fun _ => true) true Try.f9.params.toList args.toList ds ps := hA
        clear hval0 hA
        have hA := hA'
        clear hA'
        rw [Try.params9] at hA hval
        obtain ⟨v0, vs0, d0, ds0, p0, q0, ea, rfl, rfl, tr0, rest0⟩ := trodAll_cons hA
        obtain ⟨v1, vs1, d1, ds1, p1, q1, rfl, rfl, rfl, tr1, rest1⟩ := trodAll_cons rest0
        obtain ⟨v2, vs2, d2, ds2, p2, q2, rfl, rfl, rfl, tr2, rest2⟩ := trodAll_cons rest1
        obtain ⟨v3, vs3, d3, ds3, p3, q3, rfl, rfl, rfl, tr3, rest3⟩ := trodAll_cons rest2
        obtain ⟨v4, vs4, d4, ds4, p4, q4, rfl, rfl, rfl, tr4, rest4⟩ := trodAll_cons rest3
        obtain ⟨v5, vs5, d5, ds5, p5, q5, rfl, rfl, rfl, tr5, rest5⟩ := trodAll_cons rest4
        obtain ⟨rfl, rfl, rfl⟩ := trodAll_nil rest5
        obtain rfl : args = #[v0, v1, v2, v3, v4, v5] := by cases args; simp_all
        clear ea
        have sl_l : Frame.Okc W (.sl [.int, .int, .int, .int]) v0 := by obtain ⟨a, l, c, e⟩ := okWide_slice Try.underlying23 (hval 0 _ v0 rfl rfl); exact Frame.arg_cell (k := 8) (by kernel_rfl) (by have e2 : v0 = .slice a l c := e; rw [e2]; rfl) tr0
        obtain ⟨radius, rfl, w_radius⟩ := Frame.arg_int Try.underlying3 (hval 1 _ v1 rfl rfl)
        obtain ⟨growth, rfl, w_growth⟩ := Frame.arg_int Try.underlying3 (hval 2 _ v2 rfl rfl)
        obtain ⟨band, rfl, w_band⟩ := Frame.arg_int Try.underlying3 (hval 3 _ v3 rfl rfl)
        obtain ⟨t, rfl, w_t⟩ := Frame.arg_int Try.underlying3 (hval 4 _ v4 rfl rfl)
        obtain ⟨cs_by, e_by, hl_by, hc_by⟩ := Frame.arg_agg Try.underlying26 (k := 8) (ks := [.int, .int]) (by kernel_rfl) (hval 5 _ v5 rfl rfl) tr5
        subst e_by
        obtain ⟨c_by_x, c_by_y, rfl⟩ : ∃ c_by_x c_by_y, cs_by = [c_by_x, c_by_y] := by match cs_by, hl_by with | [x0, x1], _ => exact ⟨x0, x1, rfl⟩
        have o_by_x : Frame.Okc W (.int) c_by_x := hc_by 0 (by decide) (by simp)
        obtain ⟨by_x, e_by_x, w_by_x⟩ := o_by_x.int_inv; subst e_by_x
        have o_by_y : Frame.Okc W (.int) c_by_y := hc_by 1 (by decide) (by simp)
        obtain ⟨by_y, e_by_y, w_by_y⟩ := o_by_y.int_inv; subst e_by_y
        exact walk v0 radius growth band t by_x by_y W sl_l (Frame.bd w_radius) (Frame.bd w_growth) (Frame.bd w_band) (Frame.bd w_t) w_by_x w_by_y)

/-- The statement. -/
theorem proved : Rows.TubeNominalSaid :=
  OpenClaim.holds_of_wide 9 Try.f9 rfl rfl rfl rfl rfl rfl rfl ⟨rfl, rfl, rfl, rfl, rfl⟩ rfl rfl rfl rfl rfl (by kernel_rfl) Try.func9 (by kernel_rfl)
    (of_decide_eq_true (by kernel_rfl)) (by unfold Func.isWrapper; first | (rw [if_pos (by decide +kernel)]; kernel_rfl) | (rw [if_neg (by decide +kernel)]; exact ⟨rfl, rfl⟩))
    (fun os started H enc _ => lifted os started H enc)
#print axioms proved
end TubeNominal
end Go.Proofs.Ytampbjbalenckaa

