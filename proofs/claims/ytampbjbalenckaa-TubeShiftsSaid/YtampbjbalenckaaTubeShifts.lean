/- TubeShifts: At of a shifted tube is that of the tube, shifted. For every input. -/
import Derived.Test.YtampbjbalenckaaTubeD
import Derived.Test.YtampbjbalenckaaTubeW
namespace Go.Proofs.Ytampbjbalenckaa
open Go.RowKit Go.ChangeShapes Go.WideShapes
namespace TubeShifts
open Kit Plane Tube
theorem d6_far {w : World} {b : Nat} {t x y h r d : Int} (a : Addr) (u : Value) (hne : a.block ≠ b) (hh : D6 w b t x y h r d) : D6 (w.setCell a u) b t x y h r d :=
  ⟨⟨cfar _ (fun e => hne (by rw [e])) hh.1.1, cfar _ (fun e => hne (by rw [e])) hh.1.2.1, cfar _ (fun e => hne (by rw [e])) hh.1.2.2⟩, cfar _ (fun e => hne (by rw [e])) hh.2.1, cfar _ (fun e => hne (by rw [e])) hh.2.2.1, cfar _ (fun e => hne (by rw [e])) hh.2.2.2⟩
theorem d6_at {w : World} {b : Nat} {t x y h r d : Int} (t' x' y' : Int) (hh : D6 w b t x y h r d) : D6 (((w.setCell ⟨b, 1, none⟩ (.int .i64 x')).setCell ⟨b, 2, none⟩ (.int .i64 y')).setCell ⟨b, 0, none⟩ (.int .i64 t')) b t' x' y' h r d := by
  obtain ⟨⟨c0, c1, c2⟩, c3, c4, c5⟩ := hh
  refine ⟨⟨?_, ?_, ?_⟩, ?_, ?_, ?_⟩
  · exact cset _ (cfar _ (by simp) (cfar _ (by simp) c0))
  · exact cfar _ (by simp) (cfar _ (by simp) (cset _ c1))
  · exact cfar _ (by simp) (cset _ (cfar _ (by simp) c2))
  · exact cfar _ (by simp) (cfar _ (by simp) (cfar _ (by simp) c3))
  · exact cfar _ (by simp) (cfar _ (by simp) (cfar _ (by simp) c4))
  · exact cfar _ (by simp) (cfar _ (by simp) (cfar _ (by simp) c5))
set_option maxHeartbeats 1000000 in
theorem bad (v : Value) (bx by' later t E : Int) (w : World) (C : Hid (∀ w1, Below w.heap.size w w1 → Calls Try.prog 32 #[v, .agg #[.int .i64 bx, .int .i64 by'], .int .i64 later] w1 fun e w' => e = .returned (.tuple #[.slice none 0 0, .int .i64 E]) ∧ Below w1.heap.size w1 w')) (_hE1 : (E == 0) = false) (hE2 : (E != 0) = true) :
    Calls Try.prog 10 #[v, .agg #[.int .i64 bx, .int .i64 by'], .int .i64 later, .int .i64 t] w fun e w' => e = .returned (.bool true) ∧ Below w.heap.size w w' := by
  go_enter Try.func10, Try.ntmps10
  have HP := Lib.hid (p2_new w 26 bx by')
  have HW := Lib.hid (b_alloc (Below.refl w.heap.size w) (.cells #[.int .i64 bx, .int .i64 by'] 26))
  go_wp2_with fail
  (with_reducible refine (tubeWorks _).mono ?_); rintro e w1 ⟨rfl, h⟩
  have HW1 := Lib.hid (b_next HW.out h); obtain ⟨p0, p1⟩ := p2_keep h HP.out; clear h
  go_wp2_with fail
  (with_reducible refine (C.out _ HW1.out).mono ?_); rintro e w2 ⟨rfl, h⟩
  have hw := b_next HW1.out h; clear h
  go_wp2_with fail
  go_ret
  exact ⟨retb rfl, hw⟩
abbrev ShC (v : Value) (n : Nat) (T X Y H R B : Nat → Int) (bx by' later : Int) (w : World) : Prop := ∀ w1, Below w.heap.size w w1 → Calls Try.prog 32 #[v, .agg #[.int .i64 bx, .int .i64 by'], .int .i64 later] w1 fun e w' => ∃ g cap', e = .returned (.tuple #[.slice (some ⟨g, 0, none⟩) n cap', .int .i64 0]) ∧ TV w' (.slice (some ⟨g, 0, none⟩) n cap') n (fun k => T k + later) (fun k => X k + bx) (fun k => Y k + by') H R B ∧ Below w1.heap.size w1 w'
set_option maxRecDepth 100000 in
set_option maxHeartbeats 4000000 in
theorem same (n cap b off : Nat) (T X Y H R B : Nat → Int) (bx by' later t u px py ph pr pb : Int) (w : World) (h0 : 0 < n) (_hn : n ≤ 64) (_hc : n ≤ cap) (_hm : cap ≤ 9223372036854775807) (HV : Hid (∀ k, k < n → S6 w b (off + k * 6) (T k) (X k) (Y k) (H k) (R k) (B k)))
    (C : Hid (ShC (.slice (some ⟨b, off, none⟩) n cap) n T X Y H R B bx by' later w)) (b0 : 0 ≤ T 0 ∧ T 0 ≤ 200000) (b1 : -999 ≤ t.tmod 1000 ∧ t.tmod 1000 ≤ 999) (hu : T 0 + t.tmod 1000 % 1000 = u)
    (A : Hid (∀ w1, Below w.heap.size w w1 → Calls Try.prog 22 #[.slice (some ⟨b, off, none⟩) n cap, .int .i64 u] w1 fun e w' => e = .returned (.tuple #[.agg #[.int .i64 u, .int .i64 px, .int .i64 py, .int .i64 ph, .int .i64 pr, .int .i64 pb], .int .i64 0]) ∧ Below w1.heap.size w1 w'))
    (A2 : Hid (∀ w1 v, TV w1 v n (fun k => T k + later) (fun k => X k + bx) (fun k => Y k + by') H R B → Calls Try.prog 22 #[v, .int .i64 (u + later)] w1 fun e w' => e = .returned (.tuple #[.agg #[.int .i64 (u + later), .int .i64 (px + bx), .int .i64 (py + by'), .int .i64 ph, .int .i64 pr, .int .i64 pb], .int .i64 0]) ∧ Below w1.heap.size w1 w'))
    (bs : -2000000 ≤ bx ∧ bx ≤ 2000000 ∧ -2000000 ≤ by' ∧ by' ≤ 2000000 ∧ -200000 ≤ later ∧ later ≤ 200000) (bp : -1000000 ≤ px ∧ px ≤ 1000000 ∧ -1000000 ≤ py ∧ py ≤ 1000000) :
    Calls Try.prog 10 #[.slice (some ⟨b, off, none⟩) n cap, .agg #[.int .i64 bx, .int .i64 by'], .int .i64 later, .int .i64 t] w fun e w' => e = .returned (.bool true) ∧ Below w.heap.size w w' := by
  have hub : 0 ≤ u ∧ u ≤ 300000 := by omega
  have ADD : Hid (∀ w : World, Calls Try.prog 31 #[.agg #[.int .i64 px, .int .i64 py], .agg #[.int .i64 bx, .int .i64 by']] w fun e w' => e = .returned (.agg #[.int .i64 (px + bx), .int .i64 (py + by')]) ∧ Below w.heap.size w w') := Lib.hid fun w => by
    have := add px py bx by' w
    rw [show wrap64 (px + bx) = (px + bx) from (IntWalk.wrap64_in _ (by omega)).trans (by omega), show wrap64 (py + by') = (py + by') from (IntWalk.wrap64_in _ (by omega)).trans (by omega)] at this
    exact this
  go_enter Try.func10, Try.ntmps10
  have HP := Lib.hid (p2_new w 26 bx by')
  have HW := Lib.hid (b_alloc (Below.refl w.heap.size w) (.cells #[.int .i64 bx, .int .i64 by'] 26))
  go_wp2_with fail
  (with_reducible refine (tubeWorks _).mono ?_); rintro e w1 ⟨rfl, h⟩
  have HW1 := Lib.hid (b_next HW.out h); have HP1 := Lib.hid (p2_keep h HP.out); obtain ⟨p0, p1⟩ := p2_keep h HP.out; clear h
  go_wp2_with fail
  (with_reducible refine (C.out _ HW1.out).mono ?_); rintro e w2 ⟨g, cap', rfl, hv, h⟩
  have V2 := Lib.hid hv; have W2 := Lib.hid (b_next HW1.out h); have P2' := Lib.hid (p2_keep h HP1.out); clear h hv p0 p1
  obtain ⟨⟨c0, -⟩, -⟩ := s6_keep W2.out (HV.out 0 h0)
  rw [Nat.zero_mul, Nat.add_zero] at c0
  have i0 : (0 : Int) < (n : Int) := by omega
  go_wp2_with fail
  (with_reducible refine (A.out _ W2.out).mono ?_); rintro e w3 ⟨rfl, h⟩
  have Z3 := Lib.hid (z6_new w3 47 u px py ph pr pb); have V3 := Lib.hid (tv_keep (b_alloc (Below.refl w3.heap.size w3) (.cells #[.int .i64 u, .int .i64 px, .int .i64 py, .int .i64 ph, .int .i64 pr, .int .i64 pb] 47)) (tv_keep h V2.out)); have P3 := Lib.hid (p2_alloc (.cells #[.int .i64 u, .int .i64 px, .int .i64 py, .int .i64 ph, .int .i64 pr, .int .i64 pb] 47) (p2_keep h P2'.out)); have W3 := Lib.hid (b_alloc (b_next W2.out h) (.cells #[.int .i64 u, .int .i64 px, .int .i64 py, .int .i64 ph, .int .i64 pr, .int .i64 pb] 47))
  have hk3 : w.heap.size < w3.heap.size := lt_of_cell (p2_keep h P2'.out).1
  clear h c0
  go_wp2_with fail
  (with_reducible refine (A2.out _ _ V3.out).mono ?_); rintro e w5 ⟨rfl, h⟩
  have hz5 := z6_keep h Z3.out
  have n5 := new_ne hz5.1.1.1
  have ZA := Lib.hid (z6_keep (b_alloc (Below.refl w5.heap.size w5) (.cells #[.int .i64 (u + later), .int .i64 (px + bx), .int .i64 (py + by'), .int .i64 ph, .int .i64 pr, .int .i64 pb] 47)) hz5); have DB := Lib.hid (d6_new w5 47 ((u + later)) ((px + bx)) ((py + by')) ph pr pb)
  have P6 := Lib.hid (p2_alloc (.cells #[.int .i64 (u + later), .int .i64 (px + bx), .int .i64 (py + by'), .int .i64 ph, .int .i64 pr, .int .i64 pb] 47) (p2_keep h P3.out)); have W6 := Lib.hid (b_alloc (b_next W3.out h) (.cells #[.int .i64 (u + later), .int .i64 (px + bx), .int .i64 (py + by'), .int .i64 ph, .int .i64 pr, .int .i64 pb] 47))
  clear h hz5
  go_wp2_with fail
  refine Tail.tail_region (by kernel_rfl) (by kernel_rfl) ?_
  apply Tail.Gq.p
  · intro wq
    (go_simp; first | exact Tail.pv_value | exact Tail.pv_skip)
  simp only [Act.put, List.setIfInBounds_toArray, List.set_cons_zero, List.set_cons_succ]
  apply Tail.Gq.p
  · intro wq
    (go_simp; first | exact Tail.pv_value | exact Tail.pv_skip)
  simp only [Act.put, List.setIfInBounds_toArray, List.set_cons_zero, List.set_cons_succ]
  apply Tail.Gq.r
  · intro wq hc hq
    (obtain ⟨⟨q0, q1, q2⟩, -, -, -⟩ := d6_keep (cls hq) ZA.out.1; obtain ⟨q3, q4⟩ := p2_keep (cls hq) P6.out; clear hc; go_simp; first | exact q2_value | exact q2_skip | (apply q2_enter; go_at_call 31; with_reducible exact ADD.out _))
  simp only [Act.put, List.setIfInBounds_toArray, List.set_cons_zero, List.set_cons_succ]
  apply Tail.Gq.r
  · intro wq hc hq
    (obtain ⟨⟨q0, q1, q2⟩, -, -, -⟩ := d6_keep (cls hq) ZA.out.1; obtain ⟨q3, q4⟩ := p2_keep (cls hq) P6.out; clear hc; go_simp; first | exact q2_value | exact q2_skip | (apply q2_enter; go_at_call 31; with_reducible exact ADD.out _))
  simp only [Act.put, List.setIfInBounds_toArray, List.set_cons_zero, List.set_cons_succ]
  apply Tail.Gq.r
  · intro wq hc hq
    (obtain ⟨⟨q0, q1, q2⟩, -, -, -⟩ := d6_keep (cls hq) ZA.out.1; obtain ⟨q3, q4⟩ := p2_keep (cls hq) P6.out; clear hc; go_simp; first | exact q2_value | exact q2_skip | (apply q2_enter; go_at_call 31; with_reducible exact ADD.out _))
  simp only [Act.put, List.setIfInBounds_toArray, List.set_cons_zero, List.set_cons_succ]
  apply Tail.Gq.p
  · intro wq
    (go_simp; first | exact Tail.pv_value | exact Tail.pv_skip)
  simp only [Act.put, List.setIfInBounds_toArray, List.set_cons_zero, List.set_cons_succ]
  apply Tail.Gq.p
  · intro wq
    (go_simp; first | exact Tail.pv_value | exact Tail.pv_skip)
  simp only [Act.put, List.setIfInBounds_toArray, List.set_cons_zero, List.set_cons_succ]
  apply Tail.Gq.r
  · intro wq hc hq
    (obtain ⟨⟨q0, q1, q2⟩, -, -, -⟩ := d6_keep (cls hq) ZA.out.1; obtain ⟨q3, q4⟩ := p2_keep (cls hq) P6.out; clear hc; go_simp; first | exact q2_value | exact q2_skip | (apply q2_enter; go_at_call 31; with_reducible exact ADD.out _))
  simp only [Act.put, List.setIfInBounds_toArray, List.set_cons_zero, List.set_cons_succ]
  apply Tail.Gq.p
  · intro wq
    (go_simp; first | exact Tail.pv_value | exact Tail.pv_skip)
  simp only [Act.put, List.setIfInBounds_toArray, List.set_cons_zero, List.set_cons_succ]
  apply Tail.Gq.p
  · intro wq
    (go_simp; first | exact Tail.pv_value | exact Tail.pv_skip)
  simp only [Act.put, List.setIfInBounds_toArray, List.set_cons_zero, List.set_cons_succ]
  apply Tail.Gq.p
  · intro wq
    (go_simp; first | exact Tail.pv_value | exact Tail.pv_skip)
  simp only [Act.put, List.setIfInBounds_toArray, List.set_cons_zero, List.set_cons_succ]
  apply Tail.Gq.p
  · intro wq
    (go_simp; first | exact Tail.pv_value | exact Tail.pv_skip)
  simp only [Act.put, List.setIfInBounds_toArray, List.set_cons_zero, List.set_cons_succ]
  apply Tail.Gq.t
  apply Tail.Gq.p
  · intro wq
    (go_simp; first | exact Tail.pv_value | exact Tail.pv_skip)
  simp only [Act.put, List.setIfInBounds_toArray, List.set_cons_zero, List.set_cons_succ]
  apply Tail.Gq.p
  · intro wq
    (go_simp; first | exact Tail.pv_value | exact Tail.pv_skip)
  simp only [Act.put, List.setIfInBounds_toArray, List.set_cons_zero, List.set_cons_succ]
  apply Tail.Gq.t
  refine Tail.Gq.nil ⟨by kernel_rfl, fun w6 hb1 => ?_⟩
  simp only [List.reverse_cons, List.reverse_nil, List.nil_append, List.cons_append]
  have zA := z6_keep hb1 ZA.out; have dB := d6_keep hb1 DB.out; have hw6 := b_next W6.out hb1
  clear hb1
  have SA := Lib.hid (d6_at (u + later) (px + bx) (py + by') zA.1)
  obtain ⟨⟨⟨c0, c1, c2⟩, -, -, -⟩, ⟨f0, f1, f2⟩, -, -, -⟩ := zA
  have SB := Lib.hid (d6_far ⟨w3.heap.size, 0, none⟩ (.int .i64 (u + later)) n5.2.1 (d6_far ⟨w3.heap.size, 2, none⟩ (.int .i64 (py + by')) n5.2.1 (d6_far ⟨w3.heap.size, 1, none⟩ (.int .i64 (px + bx)) n5.2.1 dB)))
  have SW := Lib.hid (b_set (b_set (b_set hw6 (p := ⟨w3.heap.size, 1, none⟩) (Nat.le_of_lt hk3) (.int .i64 (px + bx))) (p := ⟨w3.heap.size, 2, none⟩) (Nat.le_of_lt hk3) (.int .i64 (py + by'))) (p := ⟨w3.heap.size, 0, none⟩) (Nat.le_of_lt hk3) (.int .i64 (u + later)))
  clear dB hw6
  go_wp2_with fail
  simp only [Kit.Ends]
  obtain ⟨⟨a0, a1, a2⟩, a3, a4, a5⟩ := SA.out
  obtain ⟨⟨d0, d1, d2⟩, d3, d4, d5⟩ := SB.out
  generalize hW : ((w6.setCell ⟨w3.heap.size, 1, none⟩ (.int .i64 (px + bx))).setCell ⟨w3.heap.size, 2, none⟩ (.int .i64 (py + by'))).setCell ⟨w3.heap.size, 0, none⟩ (.int .i64 (u + later)) = w7 at *
  clear hW c0 c1 c2 f0 f1 f2
  go_wp2_with fail
  go_ret
  exact ⟨retb rfl, SW.out⟩
set_option maxRecDepth 100000 in
set_option maxHeartbeats 4000000 in
theorem both (n cap b off : Nat) (T X Y H R B : Nat → Int) (bx by' later t u E : Int) (w : World) (h0 : 0 < n) (_hn : n ≤ 64) (_hc : n ≤ cap) (_hm : cap ≤ 9223372036854775807) (HV : Hid (∀ k, k < n → S6 w b (off + k * 6) (T k) (X k) (Y k) (H k) (R k) (B k)))
    (C : Hid (ShC (.slice (some ⟨b, off, none⟩) n cap) n T X Y H R B bx by' later w)) (b0 : 0 ≤ T 0 ∧ T 0 ≤ 200000) (b1 : -999 ≤ t.tmod 1000 ∧ t.tmod 1000 ≤ 999) (hu : T 0 + t.tmod 1000 % 1000 = u)
    (A : Hid (∀ w1, Below w.heap.size w w1 → Calls Try.prog 22 #[.slice (some ⟨b, off, none⟩) n cap, .int .i64 u] w1 fun e w' => e = .returned (.tuple #[.agg #[.int .i64 0, .int .i64 0, .int .i64 0, .int .i64 0, .int .i64 0, .int .i64 0], .int .i64 E]) ∧ Below w1.heap.size w1 w'))
    (A2 : Hid (∀ w1 v, TV w1 v n (fun k => T k + later) (fun k => X k + bx) (fun k => Y k + by') H R B → Calls Try.prog 22 #[v, .int .i64 (u + later)] w1 fun e w' => e = .returned (.tuple #[.agg #[.int .i64 0, .int .i64 0, .int .i64 0, .int .i64 0, .int .i64 0, .int .i64 0], .int .i64 E]) ∧ Below w1.heap.size w1 w'))
    (bs : -2000000 ≤ bx ∧ bx ≤ 2000000 ∧ -2000000 ≤ by' ∧ by' ≤ 2000000 ∧ -200000 ≤ later ∧ later ≤ 200000) (_hE1 : (E == 0) = false) (hE2 : (E != 0) = true) :
    Calls Try.prog 10 #[.slice (some ⟨b, off, none⟩) n cap, .agg #[.int .i64 bx, .int .i64 by'], .int .i64 later, .int .i64 t] w fun e w' => e = .returned (.bool true) ∧ Below w.heap.size w w' := by
  have hub : 0 ≤ u ∧ u ≤ 300000 := by omega
  have ADD : Hid (∀ w : World, Calls Try.prog 31 #[.agg #[.int .i64 0, .int .i64 0], .agg #[.int .i64 bx, .int .i64 by']] w fun e w' => e = .returned (.agg #[.int .i64 bx, .int .i64 by']) ∧ Below w.heap.size w w') := Lib.hid fun w => by
    have := add 0 0 bx by' w
    rw [show wrap64 (0 + bx) = bx from (IntWalk.wrap64_in _ (by omega)).trans (by omega), show wrap64 (0 + by') = by' from (IntWalk.wrap64_in _ (by omega)).trans (by omega)] at this
    exact this
  go_enter Try.func10, Try.ntmps10
  have HP := Lib.hid (p2_new w 26 bx by')
  have HW := Lib.hid (b_alloc (Below.refl w.heap.size w) (.cells #[.int .i64 bx, .int .i64 by'] 26))
  go_wp2_with fail
  (with_reducible refine (tubeWorks _).mono ?_); rintro e w1 ⟨rfl, h⟩
  have HW1 := Lib.hid (b_next HW.out h); have HP1 := Lib.hid (p2_keep h HP.out); obtain ⟨p0, p1⟩ := p2_keep h HP.out; clear h
  go_wp2_with fail
  (with_reducible refine (C.out _ HW1.out).mono ?_); rintro e w2 ⟨g, cap', rfl, hv, h⟩
  have V2 := Lib.hid hv; have W2 := Lib.hid (b_next HW1.out h); have P2' := Lib.hid (p2_keep h HP1.out); clear h hv p0 p1
  obtain ⟨⟨c0, -⟩, -⟩ := s6_keep W2.out (HV.out 0 h0)
  rw [Nat.zero_mul, Nat.add_zero] at c0
  have i0 : (0 : Int) < (n : Int) := by omega
  go_wp2_with fail
  (with_reducible refine (A.out _ W2.out).mono ?_); rintro e w3 ⟨rfl, h⟩
  have Z3 := Lib.hid (z6_new w3 47 0 0 0 0 0 0); have V3 := Lib.hid (tv_keep (b_alloc (Below.refl w3.heap.size w3) (.cells #[.int .i64 0, .int .i64 0, .int .i64 0, .int .i64 0, .int .i64 0, .int .i64 0] 47)) (tv_keep h V2.out)); have P3 := Lib.hid (p2_alloc (.cells #[.int .i64 0, .int .i64 0, .int .i64 0, .int .i64 0, .int .i64 0, .int .i64 0] 47) (p2_keep h P2'.out)); have W3 := Lib.hid (b_alloc (b_next W2.out h) (.cells #[.int .i64 0, .int .i64 0, .int .i64 0, .int .i64 0, .int .i64 0, .int .i64 0] 47))
  have hk3 : w.heap.size < w3.heap.size := lt_of_cell (p2_keep h P2'.out).1
  clear h c0
  go_wp2_with fail
  (with_reducible refine (A2.out _ _ V3.out).mono ?_); rintro e w5 ⟨rfl, h⟩
  have hz5 := z6_keep h Z3.out
  have n5 := new_ne hz5.1.1.1
  have ZA := Lib.hid (z6_keep (b_alloc (Below.refl w5.heap.size w5) (.cells #[.int .i64 0, .int .i64 0, .int .i64 0, .int .i64 0, .int .i64 0, .int .i64 0] 47)) hz5); have DB := Lib.hid (d6_new w5 47 0 0 0 0 0 0)
  have P6 := Lib.hid (p2_alloc (.cells #[.int .i64 0, .int .i64 0, .int .i64 0, .int .i64 0, .int .i64 0, .int .i64 0] 47) (p2_keep h P3.out)); have W6 := Lib.hid (b_alloc (b_next W3.out h) (.cells #[.int .i64 0, .int .i64 0, .int .i64 0, .int .i64 0, .int .i64 0, .int .i64 0] 47))
  clear h hz5
  go_wp2_with fail
  refine Tail.tail_region (by kernel_rfl) (by kernel_rfl) ?_
  apply Tail.Gq.p
  · intro wq
    (go_simp; first | exact Tail.pv_value | exact Tail.pv_skip)
  simp only [Act.put, List.setIfInBounds_toArray, List.set_cons_zero, List.set_cons_succ]
  apply Tail.Gq.p
  · intro wq
    (go_simp; first | exact Tail.pv_value | exact Tail.pv_skip)
  simp only [Act.put, List.setIfInBounds_toArray, List.set_cons_zero, List.set_cons_succ]
  apply Tail.Gq.r
  · intro wq hc hq
    (obtain ⟨⟨q0, q1, q2⟩, -, -, -⟩ := d6_keep (cls hq) ZA.out.1; obtain ⟨q3, q4⟩ := p2_keep (cls hq) P6.out; clear hc; go_simp; first | exact q2_value | exact q2_skip | (apply q2_enter; go_at_call 31; with_reducible exact ADD.out _))
  simp only [Act.put, List.setIfInBounds_toArray, List.set_cons_zero, List.set_cons_succ]
  apply Tail.Gq.r
  · intro wq hc hq
    (obtain ⟨⟨q0, q1, q2⟩, -, -, -⟩ := d6_keep (cls hq) ZA.out.1; obtain ⟨q3, q4⟩ := p2_keep (cls hq) P6.out; clear hc; go_simp; first | exact q2_value | exact q2_skip | (apply q2_enter; go_at_call 31; with_reducible exact ADD.out _))
  simp only [Act.put, List.setIfInBounds_toArray, List.set_cons_zero, List.set_cons_succ]
  apply Tail.Gq.r
  · intro wq hc hq
    (obtain ⟨⟨q0, q1, q2⟩, -, -, -⟩ := d6_keep (cls hq) ZA.out.1; obtain ⟨q3, q4⟩ := p2_keep (cls hq) P6.out; clear hc; go_simp; first | exact q2_value | exact q2_skip | (apply q2_enter; go_at_call 31; with_reducible exact ADD.out _))
  simp only [Act.put, List.setIfInBounds_toArray, List.set_cons_zero, List.set_cons_succ]
  apply Tail.Gq.p
  · intro wq
    (go_simp; first | exact Tail.pv_value | exact Tail.pv_skip)
  simp only [Act.put, List.setIfInBounds_toArray, List.set_cons_zero, List.set_cons_succ]
  apply Tail.Gq.p
  · intro wq
    (go_simp; first | exact Tail.pv_value | exact Tail.pv_skip)
  simp only [Act.put, List.setIfInBounds_toArray, List.set_cons_zero, List.set_cons_succ]
  apply Tail.Gq.r
  · intro wq hc hq
    (obtain ⟨⟨q0, q1, q2⟩, -, -, -⟩ := d6_keep (cls hq) ZA.out.1; obtain ⟨q3, q4⟩ := p2_keep (cls hq) P6.out; clear hc; go_simp; first | exact q2_value | exact q2_skip | (apply q2_enter; go_at_call 31; with_reducible exact ADD.out _))
  simp only [Act.put, List.setIfInBounds_toArray, List.set_cons_zero, List.set_cons_succ]
  apply Tail.Gq.p
  · intro wq
    (go_simp; first | exact Tail.pv_value | exact Tail.pv_skip)
  simp only [Act.put, List.setIfInBounds_toArray, List.set_cons_zero, List.set_cons_succ]
  apply Tail.Gq.p
  · intro wq
    (go_simp; first | exact Tail.pv_value | exact Tail.pv_skip)
  simp only [Act.put, List.setIfInBounds_toArray, List.set_cons_zero, List.set_cons_succ]
  apply Tail.Gq.p
  · intro wq
    (go_simp; first | exact Tail.pv_value | exact Tail.pv_skip)
  simp only [Act.put, List.setIfInBounds_toArray, List.set_cons_zero, List.set_cons_succ]
  apply Tail.Gq.p
  · intro wq
    (go_simp; first | exact Tail.pv_value | exact Tail.pv_skip)
  simp only [Act.put, List.setIfInBounds_toArray, List.set_cons_zero, List.set_cons_succ]
  apply Tail.Gq.t
  apply Tail.Gq.p
  · intro wq
    (go_simp; first | exact Tail.pv_value | exact Tail.pv_skip)
  simp only [Act.put, List.setIfInBounds_toArray, List.set_cons_zero, List.set_cons_succ]
  apply Tail.Gq.p
  · intro wq
    (go_simp; first | exact Tail.pv_value | exact Tail.pv_skip)
  simp only [Act.put, List.setIfInBounds_toArray, List.set_cons_zero, List.set_cons_succ]
  apply Tail.Gq.t
  refine Tail.Gq.nil ⟨by kernel_rfl, fun w6 hb1 => ?_⟩
  simp only [List.reverse_cons, List.reverse_nil, List.nil_append, List.cons_append]
  have zA := z6_keep hb1 ZA.out; have dB := d6_keep hb1 DB.out; have hw6 := b_next W6.out hb1
  clear hb1
  have SA := Lib.hid (d6_at later bx by' zA.1)
  obtain ⟨⟨⟨c0, c1, c2⟩, -, -, -⟩, ⟨f0, f1, f2⟩, -, -, -⟩ := zA
  have SB := Lib.hid (d6_far ⟨w3.heap.size, 0, none⟩ (.int .i64 later) n5.2.1 (d6_far ⟨w3.heap.size, 2, none⟩ (.int .i64 by') n5.2.1 (d6_far ⟨w3.heap.size, 1, none⟩ (.int .i64 bx) n5.2.1 dB)))
  have SW := Lib.hid (b_set (b_set (b_set hw6 (p := ⟨w3.heap.size, 1, none⟩) (Nat.le_of_lt hk3) (.int .i64 bx)) (p := ⟨w3.heap.size, 2, none⟩) (Nat.le_of_lt hk3) (.int .i64 by')) (p := ⟨w3.heap.size, 0, none⟩) (Nat.le_of_lt hk3) (.int .i64 later))
  clear dB hw6
  go_wp2_with fail
  simp only [Kit.Ends]
  obtain ⟨⟨a0, a1, a2⟩, a3, a4, a5⟩ := SA.out
  obtain ⟨⟨d0, d1, d2⟩, d3, d4, d5⟩ := SB.out
  generalize hW : ((w6.setCell ⟨w3.heap.size, 1, none⟩ (.int .i64 bx)).setCell ⟨w3.heap.size, 2, none⟩ (.int .i64 by')).setCell ⟨w3.heap.size, 0, none⟩ (.int .i64 later) = w7 at *
  clear hW c0 c1 c2 f0 f1 f2
  go_wp2_with fail
  go_ret
  exact ⟨retb rfl, SW.out⟩
theorem tx_shift (T X : Nat → Int) (i : Nat) (t bx later : Int) : tx (fun k => T k + later) (fun k => X k + bx) i (t + later) = tx T X i t + bx := by
  unfold tx tw
  dsimp only
  rw [show X (i + 1) + bx - (X i + bx) = X (i + 1) - X i from by omega, show t + later - (T i + later) = t - T i from by omega, show T (i + 1) + later - (T i + later) = T (i + 1) - T i from by omega]
  omega
theorem th_shift (T X : Nat → Int) (i : Nat) (t later : Int) : th (fun k => T k + later) X i (t + later) = th T X i t := by
  unfold th
  rw [show t + later - (T i + later) = t - T i from by omega, show T (i + 1) + later - (T i + later) = T (i + 1) - T i from by omega]
theorem tu_shift (T X : Nat → Int) (i : Nat) (t later : Int) : tu (fun k => T k + later) X i (t + later) = tu T X i t := by
  unfold tu
  rw [show t + later - (T i + later) = t - T i from by omega, show T (i + 1) + later - (T i + later) = T (i + 1) - T i from by omega]
theorem tm1000 (x : Int) : -999 ≤ x.tmod 1000 ∧ x.tmod 1000 ≤ 999 := by
  have := (Num.tdiv_facts x 1000 (by omega)).2.2.2.1 (by omega); omega
theorem tatE_ok {T X Y H R B : Nat → Int} {n : Nat} {u : Int} (hp : tok T X Y H R B n) (h0 : T 0 ≤ u) (h1 : u ≤ T (n - 1)) : tatE T X Y H R B n u = 0 := by
  unfold tatE; rw [(tck_zero n).2 hp, if_neg (by omega), if_neg (by omega)]
theorem tatE_late {T X Y H R B : Nat → Int} {n : Nat} {u : Int} (hp : tok T X Y H R B n) (h1 : T (n - 1) < u) : tatE T X Y H R B n u = 12 := by
  unfold tatE; rw [(tck_zero n).2 hp, if_neg (by omega), if_pos (by omega)]
/-- The error is nil or not. -/
theorem two (E : Int) : (E = 0 ∧ (E == 0) = true ∧ (E != 0) = false) ∨ (E ≠ 0 ∧ (E == 0) = false ∧ (E != 0) = true) := by
  by_cases h : E = 0
  · exact Or.inl ⟨h, by simp [h], by simp [h]⟩
  · exact Or.inr ⟨h, by simp [h], by simp [h]⟩
theorem walk (l : Value) (by_x : Int) (by_y : Int) (later : Int) (t : Int) (W : World) (h_l : Frame.Okc W (.sl [.int, .int, .int, .int, .int, .int]) l) (_h_by_x : -9223372036854775808 ≤ by_x ∧ by_x ≤ 9223372036854775807) (_h_by_y : -9223372036854775808 ≤ by_y ∧ by_y ≤ 9223372036854775807) (_h_later : -9223372036854775808 ≤ later ∧ later ≤ 9223372036854775807) (_h_t : -9223372036854775808 ≤ t ∧ t ≤ 9223372036854775807) :
    Calls Try.prog 10 #[l, .agg #[.int .i64 by_x, .int .i64 by_y], .int .i64 later, .int .i64 t] W fun e w' => e = .returned (.bool true) ∧ Below W.heap.size W w' := by
  obtain ⟨n, T, X, Y, H, R, B, hv⟩ := tv_of h_l
  have C := checkC hv
  by_cases hE : tck T X Y H R B n = 0
  · have hp := (tck_zero n).1 hE
    rw [hE] at C
    by_cases hx : shOk by_x by_y later
    · rcases hv with ⟨h0, -⟩ | ⟨h0, b, off, cap, rfl, h1, h2, h3⟩
      · have := hp.pos; omega
      · have hv : TV W (.slice (some ⟨b, off, none⟩) n cap) n T X Y H R B := Or.inr ⟨h0, b, off, cap, rfl, h1, h2, h3⟩
        have h2' : cap ≤ 9223372036854775807 := Nat.le_trans h2 (by decide)
        have C2 : ∀ w1 v, TV w1 v n (fun k => T k + later) (fun k => X k + by_x) (fun k => Y k + by_y) H R B → Calls Try.prog 25 #[v] w1 fun e w' => e = .returned (.int .i64 (tck (fun k => T k + later) (fun k => X k + by_x) (fun k => Y k + by_y) H R B n)) ∧ Below w1.heap.size w1 w' := fun w1 v hv => checkC hv w1 (Below.refl _ _)
        have SW := fun (w1 : World) (hb : Below W.heap.size W w1) => shift_walk n cap b off T X Y H R B by_x by_y later _ w1 h0 hp.small h1 h2' (Lib.hid fun k hk => s6_keep hb (h3 k hk)) (Lib.hid fun w2 hb2 => C w2 (b_next hb hb2)) (Lib.hid C2) (Lib.hid fun k hk => ⟨hp.time k hk, hp.point k hk⟩) hx (two _)
        by_cases hE2 : tck (fun k => T k + later) (fun k => X k + by_x) (fun k => Y k + by_y) H R B n = 0
        · have hp2 := (tck_zero n).1 hE2
          have SC : ShC (.slice (some ⟨b, off, none⟩) n cap) n T X Y H R B by_x by_y later W := fun w1 hb => by
            refine (SW w1 hb).mono ?_
            rintro e w' ⟨⟨h, -⟩ | ⟨-, g, cap', he, -, hc, hm, hr⟩, hbw⟩
            · exact absurd hE2 h
            · exact ⟨g, cap', he, tf_tv h0 hc hm hr, hbw⟩
          have b1 := tm1000 t
          have b0 := hp.time 0 hp.pos
          obtain ⟨u, hu⟩ : ∃ u, T 0 + t.tmod 1000 % 1000 = u := ⟨_, rfl⟩
          have hu0 : T 0 ≤ u := by omega
          unfold shOk at hx
          by_cases hl : u ≤ T (n - 1)
          · obtain ⟨i, hs⟩ := tseg_ex hp.pos hu0
            have bd := at_bds hp hs hl
            have gp := bd.1
            unfold Plane.good at gp
            have A1 := fun (w1 : World) (hb : Below W.heap.size W w1) => tAt_ok (tv_keep hb hv) (tatE_ok hp hu0 hl) hs
            have hs2 : tseg (fun k => T k + later) n (u + later) i := ⟨hs.1, by show T i + later ≤ u + later; have := hs.2.1; omega, fun h => by show u + later < T (i + 1) + later; have := hs.2.2 h; omega⟩
            have A2 := fun (w1 : World) (v : Value) (hv : TV w1 v n (fun k => T k + later) (fun k => X k + by_x) (fun k => Y k + by_y) H R B) => tAt_ok hv (tatE_ok hp2 (show T 0 + later ≤ u + later by omega) (show u + later ≤ T (n - 1) + later by omega)) hs2
            simp only [tx_shift, th_shift, tu_shift] at A2
            exact same n cap b off T X Y H R B by_x by_y later t u _ _ _ _ _ W h0 hp.small h1 h2' (Lib.hid h3) (Lib.hid SC) b0 b1 hu (Lib.hid A1) (Lib.hid A2) (by omega) (by omega)
          · have A1 := fun (w1 : World) (hb : Below W.heap.size W w1) => tAt_bad (tv_keep hb hv) (t := u) (by rw [tatE_late hp (by omega)]; decide)
            have A2 := fun (w1 : World) (v : Value) (hv : TV w1 v n (fun k => T k + later) (fun k => X k + by_x) (fun k => Y k + by_y) H R B) => tAt_bad hv (t := u + later) (by rw [tatE_late hp2 (show T (n - 1) + later < u + later by omega)]; decide)
            rw [tatE_late hp (by omega)] at A1
            rw [tatE_late hp2 (show T (n - 1) + later < u + later by omega)] at A2
            exact both n cap b off T X Y H R B by_x by_y later t u 12 W h0 hp.small h1 h2' (Lib.hid h3) (Lib.hid SC) b0 b1 hu (Lib.hid A1) (Lib.hid A2) (by omega) (by decide) (by decide)
        · refine bad (.slice (some ⟨b, off, none⟩) n cap) by_x by_y later t _ W (Lib.hid fun w1 hb => (SW w1 hb).mono ?_) (by simpa using hE2) (by simpa using hE2)
          rintro e w' ⟨⟨-, he⟩ | ⟨h, -⟩, hbw⟩
          · exact ⟨he, hbw⟩
          · exact absurd h hE2
    · exact bad l by_x by_y later t 4 W (Lib.hid fun w1 hb => shift_no l by_x by_y later w1 (Lib.hid fun w2 hb2 => C w2 (b_next hb hb2)) hx) (by decide) (by decide)
  · exact bad l by_x by_y later t _ W (Lib.hid fun w1 hb => shift_bad l by_x by_y later _ w1 (Lib.hid fun w2 hb2 => C w2 (b_next hb hb2)) (by simpa using hE) (by simpa using hE)) (by simpa using hE) (by simpa using hE)
-- FRAME --

set_option maxRecDepth 100000 in
theorem lifted (os : Os) (started : os.Started) (H : Type) (enc : TypeId × Value → H) :
    ReturnsInHanded {} Try.checked os 10 .any (Rows.tubeShiftsSpec.pre6 enc Try.prog Try.f10 Rows.tubeShiftsRow.domain false) (Rows.tubeShiftsSpec.post enc Try.prog Try.f10 false true false false) :=
  Frame.lifted (C := Try.checked) 10 Try.f10 Try.own started (by kernel_rfl) Try.func10 Try.laidOut rfl (by kernel_rfl) 4 rfl Try.underlying4
      (fun ds h => by match ds, h with | [_, _, _, _], _ => rfl)
      (ChangeSpec.witness6 (enc := enc) (C := Try.checked) false ⟨#[], #[.slice none 0 0, .agg #[.int .i64 0, .int .i64 0], .int .i64 0, .int .i64 0], []⟩ 8 (by kernel_rfl) (by kernel_rfl) (by kernel_rfl) (by kernel_rfl))
      (fun W base args ds ps hval0 hA _ => by
        have hval : ∀ (j : Nat) t v, Try.f10.params[j]? = some t → args[j]? = some v → Value.okWide Try.prog W .any base t v := hval0
        have hA' : DataW.TrodAll enc Try.prog W 0 (fun _ => true) true Try.f10.params.toList args.toList ds ps := hA
        clear hval0 hA
        have hA := hA'
        clear hA'
        rw [Try.params10] at hA hval
        obtain ⟨v0, vs0, d0, ds0, p0, q0, ea, rfl, rfl, tr0, rest0⟩ := trodAll_cons hA
        obtain ⟨v1, vs1, d1, ds1, p1, q1, rfl, rfl, rfl, tr1, rest1⟩ := trodAll_cons rest0
        obtain ⟨v2, vs2, d2, ds2, p2, q2, rfl, rfl, rfl, tr2, rest2⟩ := trodAll_cons rest1
        obtain ⟨v3, vs3, d3, ds3, p3, q3, rfl, rfl, rfl, tr3, rest3⟩ := trodAll_cons rest2
        obtain ⟨rfl, rfl, rfl⟩ := trodAll_nil rest3
        obtain rfl : args = #[v0, v1, v2, v3] := by cases args; simp_all
        clear ea
        have sl_l : Frame.Okc W (.sl [.int, .int, .int, .int, .int, .int]) v0 := by obtain ⟨a, l, c, e⟩ := okWide_slice Try.underlying45 (hval 0 _ v0 rfl rfl); exact Frame.arg_cell (k := 8) (by kernel_rfl) (by have e2 : v0 = .slice a l c := e; rw [e2]; rfl) tr0
        obtain ⟨cs_by, e_by, hl_by, hc_by⟩ := Frame.arg_agg Try.underlying26 (k := 8) (ks := [.int, .int]) (by kernel_rfl) (hval 1 _ v1 rfl rfl) tr1
        subst e_by
        obtain ⟨c_by_x, c_by_y, rfl⟩ : ∃ c_by_x c_by_y, cs_by = [c_by_x, c_by_y] := by match cs_by, hl_by with | [x0, x1], _ => exact ⟨x0, x1, rfl⟩
        have o_by_x : Frame.Okc W (.int) c_by_x := hc_by 0 (by decide) (by simp)
        obtain ⟨by_x, e_by_x, w_by_x⟩ := o_by_x.int_inv; subst e_by_x
        have o_by_y : Frame.Okc W (.int) c_by_y := hc_by 1 (by decide) (by simp)
        obtain ⟨by_y, e_by_y, w_by_y⟩ := o_by_y.int_inv; subst e_by_y
        obtain ⟨later, rfl, w_later⟩ := Frame.arg_int Try.underlying3 (hval 2 _ v2 rfl rfl)
        obtain ⟨t, rfl, w_t⟩ := Frame.arg_int Try.underlying3 (hval 3 _ v3 rfl rfl)
        exact walk v0 by_x by_y later t W sl_l w_by_x w_by_y (Frame.bd w_later) (Frame.bd w_t))

/-- The statement. -/
theorem proved : Rows.TubeShiftsSaid :=
  OpenClaim.holds_of_wide 10 Try.f10 rfl rfl rfl rfl rfl rfl rfl ⟨rfl, rfl, rfl, rfl, rfl⟩ rfl rfl rfl rfl rfl (by kernel_rfl) Try.func10 (by kernel_rfl)
    (of_decide_eq_true (by kernel_rfl)) (by unfold Func.isWrapper; first | (rw [if_pos (by decide +kernel)]; kernel_rfl) | (rw [if_neg (by decide +kernel)]; exact ⟨rfl, rfl⟩))
    (fun os started H enc _ => lifted os started H enc)
#print axioms proved
end TubeShifts
end Go.Proofs.Ytampbjbalenckaa

