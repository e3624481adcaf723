/- FlyWinds: the duration of a planned flight is the sum of the longest durations of its legs. For every input, where math's tables read as Go's library lays them. -/
import Derived.Test.YtkapllakofndlaaDoorM23
import Derived.Test.YtkapllakofndlaaDoorM26
import Derived.Test.YtkapllakofndlaaDoorM05
import Derived.Test.YtkapllakofndlaaDoorRtW
import Derived.Test.YtkapllakofndlaaDoorCards
namespace Go.Proofs.YtkapllakofndlaaDoor
open Go.RowKit Go.ChangeShapes Go.WideShapes
namespace FlyWinds
open Kit Plane Chart Route Fly
set_option maxRecDepth 100000 in
set_option maxHeartbeats 8000000 in
theorem go_bad (cl kd f t ks : ByteArray) (off sp h kw ceil climb desc slow fast : Int) (A1 A2 A3 A4 : Option Addr) (n c1 m c2 nr c3 nw c4 : Nat) (E E2 : Int) (w : World) (hE1 : (E != 0) = true) (WK : Hid (∀ w1, Below w.heap.size w w1 → Calls Tryd.prog 25 #[] w1 fun e w' => e = .returned (.bool true) ∧ Below w1.heap.size w1 w')) (WK2 : Hid (∀ w1, Below w.heap.size w w1 → Calls Tryd.prog 21 #[] w1 fun e w' => e = .returned (.bool true) ∧ Below w1.heap.size w1 w')) (EX : Hid (∀ w1, Below w.heap.size w w1 → Calls Tryd.prog 27 #[Plan.plan cl kd f t off sp h (.slice A3 nr c3), .agg #[.slice A1 n c1, .slice A2 m c2]] w1 fun e w' => e = .returned (.tuple #[.slice none 0 0, .int .i64 E]) ∧ Below w1.heap.size w1 w')) (PT : Hid (∀ w1, Below w.heap.size w w1 → Calls Tryd.prog 28 #[.slice none 0 0, Plan.plan cl kd f t off sp h (.slice A3 nr c3), .agg #[.string ks, .int .i64 kw, .int .i64 ceil, .int .i64 climb, .int .i64 desc, .int .i64 slow, .int .i64 fast], .slice A4 nw c4] w1 fun e w' => e = .returned (.tuple #[.slice none 0 0, .int .i64 E2]) ∧ Below w1.heap.size w1 w')) :
    Calls Tryd.prog 12 #[Plan.plan cl kd f t off sp h (.slice A3 nr c3), .agg #[.slice A1 n c1, .slice A2 m c2], .agg #[.string ks, .int .i64 kw, .int .i64 ceil, .int .i64 climb, .int .i64 desc, .int .i64 slow, .int .i64 fast], .slice A4 nw c4] w fun e w' => e = .returned (.bool true) ∧ Below w.heap.size w w' := by
  have hE0 : (E == 0) = false := by simpa using hE1
  have n8 := Plan.n8_new w 50 cl kd f t off sp h (.slice A3 nr c3)
  have N0 : Hid (Plan.N8 (((w.alloc (.cells #[.string cl, .string kd, .string f, .string t, .int .i64 off, .int .i64 sp, .int .i64 h, .slice A3 nr c3] 50)).alloc (.cells #[.slice A1 n c1, .slice A2 m c2] 54)).alloc (.cells #[.string ks, .int .i64 kw, .int .i64 ceil, .int .i64 climb, .int .i64 desc, .int .i64 slow, .int .i64 fast] 56)) w.heap.size cl kd f t off sp h (.slice A3 nr c3)) := Lib.hid (Plan.n8_keep (b_alloc (b_alloc (Below.refl _ _) _) _) n8)
  have p2 := p2v_new (w.alloc (.cells #[.string cl, .string kd, .string f, .string t, .int .i64 off, .int .i64 sp, .int .i64 h, .slice A3 nr c3] 50)) 54 (.slice A1 n c1) (.slice A2 m c2)
  rw [World.size_alloc] at p2
  have C0 : Hid (P2V (((w.alloc (.cells #[.string cl, .string kd, .string f, .string t, .int .i64 off, .int .i64 sp, .int .i64 h, .slice A3 nr c3] 50)).alloc (.cells #[.slice A1 n c1, .slice A2 m c2] 54)).alloc (.cells #[.string ks, .int .i64 kw, .int .i64 ceil, .int .i64 climb, .int .i64 desc, .int .i64 slow, .int .i64 fast] 56)) (w.heap.size + 1) (.slice A1 n c1) (.slice A2 m c2)) := Lib.hid (p2v_keep (b_alloc (Below.refl _ _) _) p2)
  have k7 := Kind.k7_new ((w.alloc (.cells #[.string cl, .string kd, .string f, .string t, .int .i64 off, .int .i64 sp, .int .i64 h, .slice A3 nr c3] 50)).alloc (.cells #[.slice A1 n c1, .slice A2 m c2] 54)) 56 ks kw ceil climb desc slow fast
  rw [World.size_alloc, World.size_alloc] at k7
  have K0 := Lib.hid k7
  have W0 := Lib.hid (b_alloc (b_alloc (b_alloc (Below.refl w.heap.size w) (.cells #[.string cl, .string kd, .string f, .string t, .int .i64 off, .int .i64 sp, .int .i64 h, .slice A3 nr c3] 50)) (.cells #[.slice A1 n c1, .slice A2 m c2] 54)) (.cells #[.string ks, .int .i64 kw, .int .i64 ceil, .int .i64 climb, .int .i64 desc, .int .i64 slow, .int .i64 fast] 56))
  clear n8 p2 k7
  go_enter Tryd.func12, Tryd.ntmps12
  go_wp2_with fail
  (with_reducible refine (WK.out _ W0.out).mono ?_); rintro e w1 ⟨rfl, hb⟩
  have W1 := Lib.hid (b_next W0.out hb); have N1 := Lib.hid (Plan.n8_keep hb N0.out); have C1 := Lib.hid (p2v_keep hb C0.out); have K1 := Lib.hid (Kind.k7_keep hb K0.out); clear hb
  go_wp2_with fail
  (with_reducible refine (WK2.out _ W1.out).mono ?_); rintro e w2 ⟨rfl, hb⟩
  have W2 := Lib.hid (b_next W1.out hb); have N2 := Lib.hid (Plan.n8_keep hb N1.out); have C2 := Lib.hid (p2v_keep hb C1.out); have K2 := Lib.hid (Kind.k7_keep hb K1.out); clear hb
  obtain ⟨x0, x1, x2, x3, x4, x5, x6, x7⟩ := N2.out
  obtain ⟨y0, y1⟩ := C2.out
  go_wp2_with fail
  (with_reducible refine (EX.out _ W2.out).mono ?_); rintro e w3 ⟨rfl, hb⟩
  have W3 := Lib.hid (b_next W2.out hb); have N3 := Lib.hid (Plan.n8_keep hb N2.out); have K3 := Lib.hid (Kind.k7_keep hb K2.out)
  clear hb x0 x1 x2 x3 x4 x5 x6 x7 y0 y1
  obtain ⟨x0, x1, x2, x3, x4, x5, x6, x7⟩ := N3.out
  obtain ⟨y0, y1, y2, y3, y4, y5, y6⟩ := K3.out
  go_wp2_with fail
  (with_reducible refine (PT.out _ W3.out).mono ?_); rintro e w4 ⟨rfl, hb⟩
  have W4 := Lib.hid (b_next W3.out hb); clear hb x0 x1 x2 x3 x4 x5 x6 x7 y0 y1 y2 y3 y4 y5 y6
  go_wp2_with fail
  all_goals (go_ret; exact ⟨by first | rfl | exact retb rfl, W4.out⟩)
set_option maxRecDepth 100000 in
set_option maxHeartbeats 8000000 in
theorem go_no (cl kd f t ks : ByteArray) (off sp h kw ceil climb desc slow fast : Int) (A1 A2 A3 A4 : Option Addr) (n c1 m c2 nr c3 nw c4 : Nat) (E : Int) (k : Nat) (NN : Nat → ByteArray) (X Y : Nat → Int) (w : World) (hE1 : (E != 0) = true) (WK : Hid (∀ w1, Below w.heap.size w w1 → Calls Tryd.prog 25 #[] w1 fun e w' => e = .returned (.bool true) ∧ Below w1.heap.size w1 w')) (WK2 : Hid (∀ w1, Below w.heap.size w w1 → Calls Tryd.prog 21 #[] w1 fun e w' => e = .returned (.bool true) ∧ Below w1.heap.size w1 w')) (EX : Hid (∀ w1, Below w.heap.size w w1 → Calls Tryd.prog 27 #[Plan.plan cl kd f t off sp h (.slice A3 nr c3), .agg #[.slice A1 n c1, .slice A2 m c2]] w1 fun e w' => (∃ v, e = .returned (.tuple #[v, .int .i64 0]) ∧ FV w' v k NN X Y) ∧ Below w1.heap.size w1 w')) (PT : Hid (∀ w1 v, Below w.heap.size w w1 → FV w1 v k NN X Y → Calls Tryd.prog 28 #[v, Plan.plan cl kd f t off sp h (.slice A3 nr c3), .agg #[.string ks, .int .i64 kw, .int .i64 ceil, .int .i64 climb, .int .i64 desc, .int .i64 slow, .int .i64 fast], .slice A4 nw c4] w1 fun e w' => e = .returned (.tuple #[.slice none 0 0, .int .i64 E]) ∧ Below w1.heap.size w1 w')) :
    Calls Tryd.prog 12 #[Plan.plan cl kd f t off sp h (.slice A3 nr c3), .agg #[.slice A1 n c1, .slice A2 m c2], .agg #[.string ks, .int .i64 kw, .int .i64 ceil, .int .i64 climb, .int .i64 desc, .int .i64 slow, .int .i64 fast], .slice A4 nw c4] w fun e w' => e = .returned (.bool true) ∧ Below w.heap.size w w' := by
  have hE0 : (E == 0) = false := by simpa using hE1
  have n8 := Plan.n8_new w 50 cl kd f t off sp h (.slice A3 nr c3)
  have N0 : Hid (Plan.N8 (((w.alloc (.cells #[.string cl, .string kd, .string f, .string t, .int .i64 off, .int .i64 sp, .int .i64 h, .slice A3 nr c3] 50)).alloc (.cells #[.slice A1 n c1, .slice A2 m c2] 54)).alloc (.cells #[.string ks, .int .i64 kw, .int .i64 ceil, .int .i64 climb, .int .i64 desc, .int .i64 slow, .int .i64 fast] 56)) w.heap.size cl kd f t off sp h (.slice A3 nr c3)) := Lib.hid (Plan.n8_keep (b_alloc (b_alloc (Below.refl _ _) _) _) n8)
  have p2 := p2v_new (w.alloc (.cells #[.string cl, .string kd, .string f, .string t, .int .i64 off, .int .i64 sp, .int .i64 h, .slice A3 nr c3] 50)) 54 (.slice A1 n c1) (.slice A2 m c2)
  rw [World.size_alloc] at p2
  have C0 : Hid (P2V (((w.alloc (.cells #[.string cl, .string kd, .string f, .string t, .int .i64 off, .int .i64 sp, .int .i64 h, .slice A3 nr c3] 50)).alloc (.cells #[.slice A1 n c1, .slice A2 m c2] 54)).alloc (.cells #[.string ks, .int .i64 kw, .int .i64 ceil, .int .i64 climb, .int .i64 desc, .int .i64 slow, .int .i64 fast] 56)) (w.heap.size + 1) (.slice A1 n c1) (.slice A2 m c2)) := Lib.hid (p2v_keep (b_alloc (Below.refl _ _) _) p2)
  have k7 := Kind.k7_new ((w.alloc (.cells #[.string cl, .string kd, .string f, .string t, .int .i64 off, .int .i64 sp, .int .i64 h, .slice A3 nr c3] 50)).alloc (.cells #[.slice A1 n c1, .slice A2 m c2] 54)) 56 ks kw ceil climb desc slow fast
  rw [World.size_alloc, World.size_alloc] at k7
  have K0 := Lib.hid k7
  have W0 := Lib.hid (b_alloc (b_alloc (b_alloc (Below.refl w.heap.size w) (.cells #[.string cl, .string kd, .string f, .string t, .int .i64 off, .int .i64 sp, .int .i64 h, .slice A3 nr c3] 50)) (.cells #[.slice A1 n c1, .slice A2 m c2] 54)) (.cells #[.string ks, .int .i64 kw, .int .i64 ceil, .int .i64 climb, .int .i64 desc, .int .i64 slow, .int .i64 fast] 56))
  clear n8 p2 k7
  go_enter Tryd.func12, Tryd.ntmps12
  go_wp2_with fail
  (with_reducible refine (WK.out _ W0.out).mono ?_); rintro e w1 ⟨rfl, hb⟩
  have W1 := Lib.hid (b_next W0.out hb); have N1 := Lib.hid (Plan.n8_keep hb N0.out); have C1 := Lib.hid (p2v_keep hb C0.out); have K1 := Lib.hid (Kind.k7_keep hb K0.out); clear hb
  go_wp2_with fail
  (with_reducible refine (WK2.out _ W1.out).mono ?_); rintro e w2 ⟨rfl, hb⟩
  have W2 := Lib.hid (b_next W1.out hb); have N2 := Lib.hid (Plan.n8_keep hb N1.out); have C2 := Lib.hid (p2v_keep hb C1.out); have K2 := Lib.hid (Kind.k7_keep hb K1.out); clear hb
  obtain ⟨x0, x1, x2, x3, x4, x5, x6, x7⟩ := N2.out
  obtain ⟨y0, y1⟩ := C2.out
  go_wp2_with fail
  (with_reducible refine (EX.out _ W2.out).mono ?_); rintro e w3 ⟨⟨v, rfl, hfv⟩, hb⟩
  have W3 := Lib.hid (b_next W2.out hb); have N3 := Lib.hid (Plan.n8_keep hb N2.out); have K3 := Lib.hid (Kind.k7_keep hb K2.out)
  clear hb x0 x1 x2 x3 x4 x5 x6 x7 y0 y1
  have FV3 := Lib.hid hfv
  obtain ⟨Av, cv, rfl⟩ := fv_slice hfv
  clear hfv
  obtain ⟨x0, x1, x2, x3, x4, x5, x6, x7⟩ := N3.out
  obtain ⟨y0, y1, y2, y3, y4, y5, y6⟩ := K3.out
  go_wp2_with fail
  (with_reducible refine (PT.out _ _ W3.out FV3.out).mono ?_); rintro e w4 ⟨rfl, hb⟩
  have W4 := Lib.hid (b_next W3.out hb); clear hb x0 x1 x2 x3 x4 x5 x6 x7 y0 y1 y2 y3 y4 y5 y6
  go_wp2_with fail
  all_goals (go_ret; exact ⟨by first | rfl | exact retb rfl, W4.out⟩)
set_option maxRecDepth 100000 in
set_option maxHeartbeats 8000000 in
theorem go_ok (cl kd f t ks : ByteArray) (off sp h kw ceil climb desc slow fast : Int) (A1 A2 A3 A4 : Option Addr) (n c1 m c2 nr c3 nw c4 : Nat) (k q : Nat) (NN : Nat → ByteArray) (X Y Lf D : Nat → Int) (g : Nat → Nat → Int) (w : World) (hk2 : 2 ≤ k) (hk : k ≤ 64) (hq0 : 0 < q) (hq64 : q ≤ 64) (_bo : 0 ≤ off ∧ off ≤ 200000) (WK : Hid (∀ w1, Below w.heap.size w w1 → Calls Tryd.prog 25 #[] w1 fun e w' => e = .returned (.bool true) ∧ Below w1.heap.size w1 w')) (WK2 : Hid (∀ w1, Below w.heap.size w w1 → Calls Tryd.prog 21 #[] w1 fun e w' => e = .returned (.bool true) ∧ Below w1.heap.size w1 w')) (EX : Hid (∀ w1, Below w.heap.size w w1 → Calls Tryd.prog 27 #[Plan.plan cl kd f t off sp h (.slice A3 nr c3), .agg #[.slice A1 n c1, .slice A2 m c2]] w1 fun e w' => (∃ v, e = .returned (.tuple #[v, .int .i64 0]) ∧ FV w' v k NN X Y) ∧ Below w1.heap.size w1 w'))
    (PT : Hid (∀ w1 v, Below w.heap.size w w1 → FV w1 v k NN X Y → Calls Tryd.prog 28 #[v, Plan.plan cl kd f t off sp h (.slice A3 nr c3), .agg #[.string ks, .int .i64 kw, .int .i64 ceil, .int .i64 climb, .int .i64 desc, .int .i64 slow, .int .i64 fast], .slice A4 nw c4] w1 fun e w' => (∃ v2, e = .returned (.tuple #[v2, .int .i64 0]) ∧ ∃ base, Own w' base 65 4 v2 q g) ∧ Below w1.heap.size w1 w'))
    (LGC : Hid (∀ i, 1 ≤ i → i < k → ∀ w1, Below w.heap.size w w1 → Calls Tryd.prog 23 #[.slice A4 nw c4, .int .i64 sp, .int .i64 h, .agg #[.int .i64 (X (i - 1)), .int .i64 (Y (i - 1))], .agg #[.int .i64 (X i), .int .i64 (Y i)]] w1 fun e w' => e = .returned (.tuple #[.int .i64 (Lf i), .int .i64 (D i), .int .i64 0]) ∧ Below w1.heap.size w1 w'))
    (HD : Hid (∀ k', k' < k → D k' ≤ 3000000)) (h1 : g 0 0 = off) (h2 : g (q - 1) 0 = fen off D k) :
    Calls Tryd.prog 12 #[Plan.plan cl kd f t off sp h (.slice A3 nr c3), .agg #[.slice A1 n c1, .slice A2 m c2], .agg #[.string ks, .int .i64 kw, .int .i64 ceil, .int .i64 climb, .int .i64 desc, .int .i64 slow, .int .i64 fast], .slice A4 nw c4] w fun e w' => e = .returned (.bool true) ∧ Below w.heap.size w w' := by
  have n8 := Plan.n8_new w 50 cl kd f t off sp h (.slice A3 nr c3)
  have N0 : Hid (Plan.N8 (((w.alloc (.cells #[.string cl, .string kd, .string f, .string t, .int .i64 off, .int .i64 sp, .int .i64 h, .slice A3 nr c3] 50)).alloc (.cells #[.slice A1 n c1, .slice A2 m c2] 54)).alloc (.cells #[.string ks, .int .i64 kw, .int .i64 ceil, .int .i64 climb, .int .i64 desc, .int .i64 slow, .int .i64 fast] 56)) w.heap.size cl kd f t off sp h (.slice A3 nr c3)) := Lib.hid (Plan.n8_keep (b_alloc (b_alloc (Below.refl _ _) _) _) n8)
  have p2 := p2v_new (w.alloc (.cells #[.string cl, .string kd, .string f, .string t, .int .i64 off, .int .i64 sp, .int .i64 h, .slice A3 nr c3] 50)) 54 (.slice A1 n c1) (.slice A2 m c2)
  rw [World.size_alloc] at p2
  have C0 : Hid (P2V (((w.alloc (.cells #[.string cl, .string kd, .string f, .string t, .int .i64 off, .int .i64 sp, .int .i64 h, .slice A3 nr c3] 50)).alloc (.cells #[.slice A1 n c1, .slice A2 m c2] 54)).alloc (.cells #[.string ks, .int .i64 kw, .int .i64 ceil, .int .i64 climb, .int .i64 desc, .int .i64 slow, .int .i64 fast] 56)) (w.heap.size + 1) (.slice A1 n c1) (.slice A2 m c2)) := Lib.hid (p2v_keep (b_alloc (Below.refl _ _) _) p2)
  have k7 := Kind.k7_new ((w.alloc (.cells #[.string cl, .string kd, .string f, .string t, .int .i64 off, .int .i64 sp, .int .i64 h, .slice A3 nr c3] 50)).alloc (.cells #[.slice A1 n c1, .slice A2 m c2] 54)) 56 ks kw ceil climb desc slow fast
  rw [World.size_alloc, World.size_alloc] at k7
  have K0 := Lib.hid k7
  have W0 := Lib.hid (b_alloc (b_alloc (b_alloc (Below.refl w.heap.size w) (.cells #[.string cl, .string kd, .string f, .string t, .int .i64 off, .int .i64 sp, .int .i64 h, .slice A3 nr c3] 50)) (.cells #[.slice A1 n c1, .slice A2 m c2] 54)) (.cells #[.string ks, .int .i64 kw, .int .i64 ceil, .int .i64 climb, .int .i64 desc, .int .i64 slow, .int .i64 fast] 56))
  clear n8 p2 k7
  go_enter Tryd.func12, Tryd.ntmps12
  go_wp2_with fail
  (with_reducible refine (WK.out _ W0.out).mono ?_); rintro e w1 ⟨rfl, hb⟩
  have W1 := Lib.hid (b_next W0.out hb); have N1 := Lib.hid (Plan.n8_keep hb N0.out); have C1 := Lib.hid (p2v_keep hb C0.out); have K1 := Lib.hid (Kind.k7_keep hb K0.out); clear hb
  go_wp2_with fail
  (with_reducible refine (WK2.out _ W1.out).mono ?_); rintro e w2 ⟨rfl, hb⟩
  have W2 := Lib.hid (b_next W1.out hb); have N2 := Lib.hid (Plan.n8_keep hb N1.out); have C2 := Lib.hid (p2v_keep hb C1.out); have K2 := Lib.hid (Kind.k7_keep hb K1.out); clear hb
  obtain ⟨x0, x1, x2, x3, x4, x5, x6, x7⟩ := N2.out
  obtain ⟨y0, y1⟩ := C2.out
  go_wp2_with fail
  (with_reducible refine (EX.out _ W2.out).mono ?_); rintro e w3 ⟨⟨v, rfl, hfv⟩, hb⟩
  have W3 := Lib.hid (b_next W2.out hb); have N3 := Lib.hid (Plan.n8_keep hb N2.out); have K3 := Lib.hid (Kind.k7_keep hb K2.out)
  clear hb x0 x1 x2 x3 x4 x5 x6 x7 y0 y1
  have FV3 := Lib.hid hfv
  obtain ⟨Av, cv, rfl⟩ := fv_slice hfv
  clear hfv
  obtain ⟨x0, x1, x2, x3, x4, x5, x6, x7⟩ := N3.out
  obtain ⟨y0, y1, y2, y3, y4, y5, y6⟩ := K3.out
  go_wp2_with fail
  (with_reducible refine (PT.out _ _ W3.out FV3.out).mono ?_); rintro e w4 ⟨⟨v2, rfl, base, hown⟩, hb⟩
  have W4 := Lib.hid (b_next W3.out hb); have N4 := Lib.hid (Plan.n8_keep hb N3.out); have FV4 := Lib.hid (fv_keep hb FV3.out); clear hb x0 x1 x2 x3 x4 x5 x6 x7 y0 y1 y2 y3 y4 y5 y6
  obtain ⟨b, cap, rfl, -, -, hc1, hc2, hat⟩ := own_row hown hq0
  have hc3 : cap ≤ 9223372036854775807 := Nat.le_trans hc2 (by decide)
  obtain ⟨P, hP⟩ : ∃ P, P = q - 1 := ⟨_, rfl⟩
  have p0 := hat.cell 0 hq0 0 (by decide)
  have pz : w4.cell? ⟨b, P * 4, none⟩ = some (.int .i64 (g P 0)) := hat.cell P (by omega) 0 (by decide)
  rw [hP, h2, ← hP] at pz
  rw [h1] at p0
  rw [Nat.zero_mul, Nat.zero_add] at p0
  have P0 := Lib.hid (And.intro p0 pz)
  have e2 : ((q : Int) == 0) = false := by simp; omega
  have hq1 : (0 : Int) < (q : Int) := by omega
  have hPq : (P : Int) < (q : Int) := by omega
  have U1 : Hid (IntKind.i64.wrap ((q : Int) - 1) = (P : Int)) := Lib.hid (by rw [IntWalk.i64_in _ (by omega)]; omega)
  clear hown hat p0 pz hc2 hP h1 h2
  go_wp2_with fail
  go_loopw [13, 14] (fun s u wr => ∃ i : Nat, 1 ≤ i ∧ i ≤ k ∧ u = .int .i64 i ∧ s = .int .i64 (tm off D (i - 1) - off) ∧ Below w4.heap.size w4 wr) (fun _ u _ => k - (intOf u).toNat)
  case atStart => exact ⟨1, Nat.le_refl _, by omega, rfl, by (first | rfl | simp [tm]), Below.refl _ _⟩
  case round =>
    obtain ⟨i, hi1, hi, rfl, rfl, hbl⟩ := hrel
    have WR := Lib.hid (b_next W4.out hbl)
    by_cases hlt : i < k
    · have hl : (i : Int) < (k : Int) := by omega
      obtain ⟨J, hJ⟩ : ∃ J, J = i - 1 := ⟨_, rfl⟩
      obtain ⟨fb, fo, fc, e, fc1, fc2, f3⟩ := fv_at (fv_keep hbl FV4.out) (by omega)
      injection e with e1 _ e3
      subst e1 e3
      have fc3 : cv ≤ 9223372036854775807 := Nat.le_trans fc2 (by decide)
      have ki := f3 i hlt; have kj := f3 J (by omega)
      have G1 := Lib.hid (And.intro kj.c1 kj.c2); have G2 := Lib.hid (And.intro ki.c1 ki.c2)
      have N6 := Lib.hid (And.intro (Plan.n8_keep hbl N4.out).c5 (Plan.n8_keep hbl N4.out).c6)
      have LGI' := LGC.out i hi1 hlt
      rw [← hJ] at LGI' ⊢
      have LGI := Lib.hid LGI'
      have hDi := HD.out i hlt
      have tb := tm_bd (off := off) HD.out J (by omega)
      have tg := tm_ge (off := off) (D := D) J
      have eTI : tm off D i = tm off D J + max 1 (D i) := by
        obtain ⟨x, rfl⟩ : ∃ x, i = x + 1 := ⟨i - 1, by omega⟩
        rw [hJ, Nat.add_sub_cancel]; rfl
      have NX : Hid (tm off D (i + 1 - 1) - off = tm off D J - off + max 1 (D i)) := Lib.hid (by rw [Nat.add_sub_cancel, eTI]; omega)
      have u1' : IntKind.i64.wrap ((i : Int) - 1) = (J : Int) := by rw [IntWalk.i64_in _ (by omega)]; omega
      have hJk : (J : Int) < (k : Int) := by omega
      have U := Lib.hid u1'
      have BL := Lib.hid hbl
      clear f3 ki kj LGI' eTI hbl u1' hJ
      generalize tm off D J = tJ at *
      generalize X i = xi at *
      generalize Y i = yi at *
      generalize X J = xp at *
      generalize Y J = yp at *
      generalize Lf i = lf at *
      generalize D i = di at *
      have u1 := U.out
      go_wp2_with fail
      refine d_region (by kernel_rfl) (by kernel_rfl) ?_
      repeat
        first
          | (refine d_plain (by with_reducible rfl) ?_; apply Exists.intro; refine ⟨fun wq hc hq => ?_, ?_⟩)
          | (refine d_on (by with_reducible rfl) (by rfl) (by with_reducible rfl) ?_; apply Exists.intro; refine ⟨fun wq hc hq => ?_, ?_⟩)
          | (refine d_off (by with_reducible rfl) (by rfl) (by rfl) ?_)
          | (refine d_void (by with_reducible rfl) (by rfl) ?_)
        try any_goals
          (have q0 := keep (cls hq) N6.out.1; have q1 := keep (cls hq) N6.out.2; have q2 := keep (cls hq) G1.out.1; have q3 := keep (cls hq) G1.out.2; have q4 := keep (cls hq) G2.out.1; have q5 := keep (cls hq) G2.out.2; clear hc
           go_simp
           first
             | rfl
             | (go_at_call 23; with_reducible exact call_below hq (LGI.out _ (b_next WR.out (cls hq)))))
        simp only [Act.put, List.setIfInBounds_toArray, List.set_cons_zero, List.set_cons_succ]
      refine d_nil ?_
      intro w7 hb7
      clear u1
      have W7 := Lib.hid (b_next BL.out hb7); clear hb7
      have MX : Hid (∀ z : Int, z = (if 1 < di then di else 1) → tm off D (i + 1 - 1) - off = tJ - off + z) := Lib.hid fun z hz => by rw [NX.out, hz]; split <;> omega
      go_wp2_with fail
      all_goals
        go_roundw
        case rel => exact ⟨i + 1, by omega, by omega, by go_num, by rw [MX.out _ rfl], W7.out⟩
        case measure => simp [intOf]; omega
    · have hik : i = k := by omega
      subst hik
      have P5 := Lib.hid (And.intro (keep hbl P0.out.1) (keep hbl P0.out.2))
      have hfe : fen off D i = tm off D (i - 1) := rfl
      rw [← hfe]
      have tb := tm_bd (off := off) HD.out (i - 1) (by omega)
      have tg := tm_ge (off := off) (D := D) (i - 1)
      rw [← hfe] at tb tg
      clear hfe hbl
      generalize fen off D i = en at *
      have u1 := U1.out
      have u2 : IntKind.i64.wrap (en - off) = en - off := IntWalk.i64_in _ (by omega)
      go_wp2_with fail
      refine d_region (by kernel_rfl) (by kernel_rfl) ?_
      repeat
        first
          | (refine d_plain (by with_reducible rfl) ?_; apply Exists.intro; refine ⟨fun wq hc hq => ?_, ?_⟩)
          | (refine d_on (by with_reducible rfl) (by rfl) (by with_reducible rfl) ?_; apply Exists.intro; refine ⟨fun wq hc hq => ?_, ?_⟩)
          | (refine d_off (by with_reducible rfl) (by rfl) (by rfl) ?_)
          | (refine d_void (by with_reducible rfl) (by rfl) ?_)
        try any_goals
          (have q0 := keep (cls hq) P5.out.1; have q1 := keep (cls hq) P5.out.2; clear hc
           go_simp
           first
             | rfl)
        simp only [Act.put, List.setIfInBounds_toArray, List.set_cons_zero, List.set_cons_succ]
      refine d_nil ?_
      intro w7 hb7
      clear u1
      have W7 := Lib.hid (b_next WR.out hb7); clear hb7
      go_wp2_with fail
      go_ret
      exact ⟨by first | rfl | exact retb rfl | exact retb (by simp), W7.out⟩
theorem slice_lits {w : World} {r fx a wv : Value} {n m nr nw : Nat} {N : Nat → ByteArray} {X Y : Nat → Int} {M : Nat → ByteArray} {l : Nat → Nat} {S : Nat → Nat → ByteArray} {RT : Nat → ByteArray} {L H WX WY WE : Nat → Int} (h1 : SV w r nr RT) (h2 : FV w fx n N X Y) (h3 : AV w a m M l S) (h4 : Wind.WV w wv nw L H WX WY WE) :
    (∃ A c, r = .slice A nr c) ∧ (∃ A c, fx = .slice A n c) ∧ (∃ A c, a = .slice A m c) ∧ ∃ A c, wv = .slice A nw c := ⟨sv_slice h1, fv_slice h2, av_slice h3, Wind.wv_slice h4⟩
theorem walk (cl kd f t : ByteArray) (off sp h : Int) (p_route c_fixes c_airways : Value) (ks : ByteArray) (kw ceil climb desc slow fast : Int) (ww : Value) (W : World) (hL : laidMetH Tryd.prog Door.laid W) (_h0 : cl.size ≤ maxLen) (_h1 : kd.size ≤ maxLen) (_h2 : f.size ≤ maxLen) (_h3 : t.size ≤ maxLen) (_h4 : -9223372036854775808 ≤ off ∧ off ≤ 9223372036854775807) (_h5 : -9223372036854775808 ≤ sp ∧ sp ≤ 9223372036854775807) (_h6 : -9223372036854775808 ≤ h ∧ h ≤ 9223372036854775807) (h_p_route : Frame.Okc W (.sl [.str]) p_route) (h_c_fixes : Frame.Okc W (.sl [.str, .int, .int]) c_fixes) (h_c_airways : Frame.Okc W (.sl [.str, .sl [.str]]) c_airways) (_h7 : ks.size ≤ maxLen) (_h8 : -9223372036854775808 ≤ kw ∧ kw ≤ 9223372036854775807) (_h9 : -9223372036854775808 ≤ ceil ∧ ceil ≤ 9223372036854775807) (_ha : -9223372036854775808 ≤ climb ∧ climb ≤ 9223372036854775807) (_hb : -9223372036854775808 ≤ desc ∧ desc ≤ 9223372036854775807) (_hc : -9223372036854775808 ≤ slow ∧ slow ≤ 9223372036854775807) (_hd : -9223372036854775808 ≤ fast ∧ fast ≤ 9223372036854775807) (h_w : Frame.Okc W (.sl [.int, .int, .int, .int, .int]) ww) :
    Calls Tryd.prog 12 #[.agg #[.string cl, .string kd, .string f, .string t, .int .i64 off, .int .i64 sp, .int .i64 h, p_route], .agg #[c_fixes, c_airways], .agg #[.string ks, .int .i64 kw, .int .i64 ceil, .int .i64 climb, .int .i64 desc, .int .i64 slow, .int .i64 fast], ww] W fun e w' => e = .returned (.bool true) ∧ Below W.heap.size W w' := by
  have TB := Door.tabs_of hL
  have WK := fun w1 (_ : Below W.heap.size W w1) => Path.flyWorks w1
  have WK2 := fun w1 (hb : Below W.heap.size W w1) => Wind.works w1 (Ang.tabs_keep hb TB)
  obtain ⟨nr, RT, hr⟩ := sv_of h_p_route
  obtain ⟨n, N, X, Y, m, M, l, S, hc⟩ := cv_of h_c_fixes h_c_airways
  obtain ⟨nw, L, H, WX, WY, WE, hw, -⟩ := Wind.wv_of h_w
  have E := fun w1 (hb : Below W.heap.size W w1) => expandC (cl := cl) (kd := kd) (f := f) (t := t) (off := off) (sp := sp) (h := h) (sv_keep hb hr) (cv_keep hb hc)
  have PTH := fun w1 v (k : Nat) (NN : Nat → ByteArray) (X' Y' : Nat → Int) (hb : Below W.heap.size W w1) (hv : FV w1 v k NN X' Y') => pathC (cl := cl) (kd := kd) (fr := f) (t := t) (ks := ks) (off := off) (sp := sp) (h := h) (kw := kw) (ceil := ceil) (climb := climb) (desc := desc) (slow := slow) (fast := fast) (Ang.tabs_keep hb TB) hv (sv_keep hb hr) (Wind.wv_keep hb hw) w1 (Below.refl _ _)
  obtain ⟨fx', a', e, hf, ha⟩ := hc.ex
  injection e with e
  obtain ⟨rfl, rfl⟩ : c_fixes = fx' ∧ c_airways = a' := by simpa using e
  clear e
  obtain ⟨⟨A3, c3, rfl⟩, ⟨A1, c1, rfl⟩, ⟨A2, c2, rfl⟩, A4, c4, rfl⟩ := slice_lits hr hf ha hw
  by_cases hE : rtE n N X Y m M l S cl kd f t off sp h nr RT = 0
  · obtain ⟨hpl, o⟩ := rt_ok hE
    obtain ⟨T, hT⟩ : ∃ T, T = rts m M l S f t (lst nr RT) := ⟨_, rfl⟩
    have h62 := o.most
    rw [← hT] at h62
    obtain ⟨FX, hFX⟩ : ∃ FX : Nat → Int, FX = fun j => X (pos n N (nth T j)) := ⟨_, rfl⟩
    obtain ⟨FY, hFY⟩ : ∃ FY : Nat → Int, FY = fun j => Y (pos n N (nth T j)) := ⟨_, rfl⟩
    have EX : ∀ w1, Below W.heap.size W w1 → Calls Tryd.prog 27 #[Plan.plan cl kd f t off sp h (.slice A3 nr c3), .agg #[.slice A1 n c1, .slice A2 m c2]] w1 fun e w' => (∃ v, e = .returned (.tuple #[v, .int .i64 0]) ∧ FV w' v T.length (nth T) FX FY) ∧ Below w1.heap.size w1 w' := fun w1 hb => (E w1 hb).mono fun e w' ⟨hp, hb'⟩ => by
      rcases hp with ⟨h0, -⟩ | ⟨-, v, he, hv⟩
      · exact absurd hE h0
      · rw [← hT] at hv; rw [hFX, hFY]; exact ⟨⟨v, he, hv⟩, hb'⟩
    have P := fun w1 v hb (hv : FV w1 v T.length (nth T) FX FY) => PTH w1 v T.length (nth T) FX FY hb hv
    clear hT hFX hFY E PTH
    by_cases hE2 : pthE T.length FX FY cl kd f t ks off sp h kw ceil climb desc slow fast nr RT nw L H WX WY WE = 0
    · obtain ⟨hn, e1, e2, e3, hce, e4, hz⟩ := fck_zero hE2
      have g1 : rck T.length FX FY = 0 := by
        unfold rlen at e1
        split at e1
        · exact absurd e1 (by assumption)
        · rename_i q; exact Classical.not_not.1 q
      obtain ⟨-, hg⟩ := rck_ok g1
      have hp := plan_zero e2
      have hk := kchk_zero e3
      have LG := fun i h1 hi w1 hb => legPC (i := i) TB hw hE2 h1 hi w1 hb
      have HD := lgs_bd hE2
      generalize lgs sp h nw L H WX WY WE FX FY T.length = D at *
      by_cases h2 : 200000 < fen off D T.length
      · refine go_no cl kd f t ks off sp h kw ceil climb desc slow fast A1 A2 A3 A4 n c1 m c2 nr c3 nw c4 12 T.length (nth T) FX FY W (by decide) (Lib.hid WK) (Lib.hid WK2) (Lib.hid EX) (Lib.hid fun w1 v hb hv => (P w1 v hb hv).mono fun e w' ⟨hh, hb'⟩ => ⟨?_, hb'⟩)
        rcases hh with ⟨h0, -⟩ | ⟨-, ⟨-, he⟩ | ⟨h0, -⟩⟩
        · exact absurd hE2 h0
        · exact he
        · omega
      · obtain ⟨o1, o2, o3⟩ := ok_st (off := off) (h := h) (climb := climb) (desc := desc) (D := D) (X := FX) (Y := FY) hn.1 hg (du_ge (by omega) (by omega)) (du_ge (by omega) (by omega)) _ (Nat.le_refl _)
        have hs2 : stK off h climb desc D T.length ≤ 2 := by unfold stK; split <;> omega
        obtain ⟨f1, f2, f3, f4, f5, f6⟩ := fin_ok (h := h) (climb := climb) (desc := desc) (ceil := ceil) o1 (by omega) hp.1.1 (by omega) (by omega) hk.2.1.1 hk.2.2.1
        have htwo := o1.two
        refine go_ok cl kd f t ks off sp h kw ceil climb desc slow fast A1 A2 A3 A4 n c1 m c2 nr c3 nw c4 T.length _ (nth T) FX FY _ D _ W hn.1 (by omega) (by omega) (by omega) hp.1 (Lib.hid WK) (Lib.hid WK2) (Lib.hid EX) (Lib.hid fun w1 v hb hv => (P w1 v hb hv).mono fun e w' ⟨hh, hb'⟩ => ⟨?_, hb'⟩) (Lib.hid LG) (Lib.hid fun i hi => (HD i hi).2) f5 f6
        rcases hh with ⟨h0, -⟩ | ⟨-, ⟨h0, -⟩ | ⟨-, v2, he, base, ho⟩⟩
        · exact absurd hE2 h0
        · omega
        · exact ⟨v2, he, base, ho⟩
    · refine go_no cl kd f t ks off sp h kw ceil climb desc slow fast A1 A2 A3 A4 n c1 m c2 nr c3 nw c4 _ T.length (nth T) FX FY W (by simpa using hE2) (Lib.hid WK) (Lib.hid WK2) (Lib.hid EX) (Lib.hid fun w1 v hb hv => (P w1 v hb hv).mono fun e w' ⟨hh, hb'⟩ => ⟨?_, hb'⟩)
      rcases hh with ⟨-, he⟩ | ⟨h0, -⟩
      · exact he
      · exact absurd h0 hE2
  · have EX : ∀ w1, Below W.heap.size W w1 → Calls Tryd.prog 27 #[Plan.plan cl kd f t off sp h (.slice A3 nr c3), .agg #[.slice A1 n c1, .slice A2 m c2]] w1 fun e w' => e = .returned (.tuple #[.slice none 0 0, .int .i64 (rtE n N X Y m M l S cl kd f t off sp h nr RT)]) ∧ Below w1.heap.size w1 w' := fun w1 hb => (E w1 hb).mono fun e w' ⟨hp, hb'⟩ => by
      rcases hp with ⟨-, he⟩ | ⟨h0, -⟩
      · exact ⟨he, hb'⟩
      · exact absurd h0 hE
    have P := fun w1 (hb : Below W.heap.size W w1) => PTH w1 (.slice none 0 0) 0 (nth []) (fun _ => 0) (fun _ => 0) hb (Or.inl ⟨rfl, Or.inl rfl⟩)
    refine go_bad cl kd f t ks off sp h kw ceil climb desc slow fast A1 A2 A3 A4 n c1 m c2 nr c3 nw c4 _ 3 W (by simpa using hE) (Lib.hid WK) (Lib.hid WK2) (Lib.hid EX) (Lib.hid fun w1 hb => (P w1 hb).mono fun e w' ⟨hh, hb'⟩ => ⟨?_, hb'⟩)
    rcases hh with ⟨-, he⟩ | ⟨h0, -⟩
    · exact he
    · exact absurd h0 (by show ¬ (3 : Int) = 0; decide)
-- FRAME --

set_option maxRecDepth 100000 in
theorem lifted (os : Os) (started : os.Started) (H : Type) (enc : TypeId × Value → H) :
    ReturnsInHanded {} Tryd.checked os 12 .any (fun w args => (Rows.flyWindsSpec.pre enc Tryd.prog Tryd.f12 [] false w args ∧ laidMetH Tryd.prog Door.laid w) ∧ sizedMet enc Tryd.prog Tryd.f12 (OpenSpec.ofChange Rows.flyWindsSpec) false w args) (Rows.flyWindsSpec.post enc Tryd.prog Tryd.f12 false true false false) :=
  Frame.lifted_laid (C := Tryd.checked) 12 Tryd.f12 Tryd.own started (by kernel_rfl) Tryd.func12 Tryd.laidOut rfl (by kernel_rfl) 4 rfl Tryd.underlying4
      (fun ds h => by match ds, h with | [_, _, _, _], _ => rfl)
      (ChangeSpec.witness_at (enc := enc) (C := Tryd.checked) (os := os) (X := fun w _ => laidMetH Tryd.prog Door.laid w) false (Door.laidWorld os) #[.agg #[.string ⟨#[]⟩, .string ⟨#[]⟩, .string ⟨#[]⟩, .string ⟨#[]⟩, .int .i64 0, .int .i64 0, .int .i64 0, .slice none 0 0], .agg #[.slice none 0 0, .slice none 0 0], .agg #[.string ⟨#[]⟩, .int .i64 0, .int .i64 0, .int .i64 0, .int .i64 0, .int .i64 0, .int .i64 0], .slice none 0 0] 8 rfl (by kernel_rfl) (by kernel_rfl) (by kernel_rfl) (by kernel_rfl) (by kernel_rfl) (Door.laidWorld_met os _))
      (fun W base args ds ps hval0 hA _ hL => by
        have hval : ∀ (j : Nat) t v, Tryd.f12.params[j]? = some t → args[j]? = some v → Value.okWide Tryd.prog W .any base t v := hval0
        have hA' : DataW.TrodAll enc Tryd.prog W 0 (fun _ => true) true Tryd.f12.params.toList args.toList ds ps := hA
        clear hval0 hA
        have hA := hA'
        clear hA'
        rw [Tryd.params12] at hA hval
        obtain ⟨v0, vs0, d0, ds0, p0, q0, ea, rfl, rfl, tr0, rest0⟩ := trodAll_cons hA
        obtain ⟨v1, vs1, d1, ds1, p1, q1, rfl, rfl, rfl, tr1, rest1⟩ := trodAll_cons rest0
        obtain ⟨v2, vs2, d2, ds2, p2, q2, rfl, rfl, rfl, tr2, rest2⟩ := trodAll_cons rest1
        obtain ⟨v3, vs3, d3, ds3, p3, q3, rfl, rfl, rfl, tr3, rest3⟩ := trodAll_cons rest2
        obtain ⟨rfl, rfl, rfl⟩ := trodAll_nil rest3
        obtain rfl : args = #[v0, v1, v2, v3] := by cases args; simp_all
        clear ea
        obtain ⟨cs_p, e_p, hl_p, hc_p⟩ := Frame.arg_agg Tryd.underlying50 (k := 8) (ks := [.str, .str, .str, .str, .int, .int, .int, .sl [.str]]) (by kernel_rfl) (hval 0 _ v0 rfl rfl) tr0
        subst e_p
        obtain ⟨c_p_call, c_p_kind, c_p_from, c_p_to, c_p_off, c_p_speed, c_p_height, c_p_route, rfl⟩ : ∃ c_p_call c_p_kind c_p_from c_p_to c_p_off c_p_speed c_p_height c_p_route, cs_p = [c_p_call, c_p_kind, c_p_from, c_p_to, c_p_off, c_p_speed, c_p_height, c_p_route] := by match cs_p, hl_p with | [x0, x1, x2, x3, x4, x5, x6, x7], _ => exact ⟨x0, x1, x2, x3, x4, x5, x6, x7, rfl⟩
        have o_p_call : Frame.Okc W (.str) c_p_call := hc_p 0 (by decide) (by simp)
        obtain ⟨p_call, e_p_call, w_p_call⟩ := o_p_call.str_inv; subst e_p_call
        have o_p_kind : Frame.Okc W (.str) c_p_kind := hc_p 1 (by decide) (by simp)
        obtain ⟨p_kind, e_p_kind, w_p_kind⟩ := o_p_kind.str_inv; subst e_p_kind
        have o_p_from : Frame.Okc W (.str) c_p_from := hc_p 2 (by decide) (by simp)
        obtain ⟨p_from, e_p_from, w_p_from⟩ := o_p_from.str_inv; subst e_p_from
        have o_p_to : Frame.Okc W (.str) c_p_to := hc_p 3 (by decide) (by simp)
        obtain ⟨p_to, e_p_to, w_p_to⟩ := o_p_to.str_inv; subst e_p_to
        have o_p_off : Frame.Okc W (.int) c_p_off := hc_p 4 (by decide) (by simp)
        obtain ⟨p_off, e_p_off, w_p_off⟩ := o_p_off.int_inv; subst e_p_off
        have o_p_speed : Frame.Okc W (.int) c_p_speed := hc_p 5 (by decide) (by simp)
        obtain ⟨p_speed, e_p_speed, w_p_speed⟩ := o_p_speed.int_inv; subst e_p_speed
        have o_p_height : Frame.Okc W (.int) c_p_height := hc_p 6 (by decide) (by simp)
        obtain ⟨p_height, e_p_height, w_p_height⟩ := o_p_height.int_inv; subst e_p_height
        have o_p_route : Frame.Okc W (.sl [.str]) c_p_route := hc_p 7 (by decide) (by simp)
        obtain ⟨cs_c, e_c, hl_c, hc_c⟩ := Frame.arg_agg Tryd.underlying54 (k := 8) (ks := [.sl [.str, .int, .int], .sl [.str, .sl [.str]]]) (by kernel_rfl) (hval 1 _ v1 rfl rfl) tr1
        subst e_c
        obtain ⟨c_c_fixes, c_c_airways, rfl⟩ : ∃ c_c_fixes c_c_airways, cs_c = [c_c_fixes, c_c_airways] := by match cs_c, hl_c with | [x0, x1], _ => exact ⟨x0, x1, rfl⟩
        have o_c_fixes : Frame.Okc W (.sl [.str, .int, .int]) c_c_fixes := hc_c 0 (by decide) (by simp)
        have o_c_airways : Frame.Okc W (.sl [.str, .sl [.str]]) c_c_airways := hc_c 1 (by decide) (by simp)
        obtain ⟨cs_k, e_k, hl_k, hc_k⟩ := Frame.arg_agg Tryd.underlying56 (k := 8) (ks := [.str, .int, .int, .int, .int, .int, .int]) (by kernel_rfl) (hval 2 _ v2 rfl rfl) tr2
        subst e_k
        obtain ⟨c_k_name, c_k_wake, c_k_ceil, c_k_climb, c_k_desc, c_k_slow, c_k_fast, rfl⟩ : ∃ c_k_name c_k_wake c_k_ceil c_k_climb c_k_desc c_k_slow c_k_fast, cs_k = [c_k_name, c_k_wake, c_k_ceil, c_k_climb, c_k_desc, c_k_slow, c_k_fast] := by match cs_k, hl_k with | [x0, x1, x2, x3, x4, x5, x6], _ => exact ⟨x0, x1, x2, x3, x4, x5, x6, rfl⟩
        have o_k_name : Frame.Okc W (.str) c_k_name := hc_k 0 (by decide) (by simp)
        obtain ⟨k_name, e_k_name, w_k_name⟩ := o_k_name.str_inv; subst e_k_name
        have o_k_wake : Frame.Okc W (.int) c_k_wake := hc_k 1 (by decide) (by simp)
        obtain ⟨k_wake, e_k_wake, w_k_wake⟩ := o_k_wake.int_inv; subst e_k_wake
        have o_k_ceil : Frame.Okc W (.int) c_k_ceil := hc_k 2 (by decide) (by simp)
        obtain ⟨k_ceil, e_k_ceil, w_k_ceil⟩ := o_k_ceil.int_inv; subst e_k_ceil
        have o_k_climb : Frame.Okc W (.int) c_k_climb := hc_k 3 (by decide) (by simp)
        obtain ⟨k_climb, e_k_climb, w_k_climb⟩ := o_k_climb.int_inv; subst e_k_climb
        have o_k_desc : Frame.Okc W (.int) c_k_desc := hc_k 4 (by decide) (by simp)
        obtain ⟨k_desc, e_k_desc, w_k_desc⟩ := o_k_desc.int_inv; subst e_k_desc
        have o_k_slow : Frame.Okc W (.int) c_k_slow := hc_k 5 (by decide) (by simp)
        obtain ⟨k_slow, e_k_slow, w_k_slow⟩ := o_k_slow.int_inv; subst e_k_slow
        have o_k_fast : Frame.Okc W (.int) c_k_fast := hc_k 6 (by decide) (by simp)
        obtain ⟨k_fast, e_k_fast, w_k_fast⟩ := o_k_fast.int_inv; subst e_k_fast
        have sl_w : Frame.Okc W (.sl [.int, .int, .int, .int, .int]) v3 := by obtain ⟨a, l, c, e⟩ := okWide_slice Tryd.underlying42 (hval 3 _ v3 rfl rfl); exact Frame.arg_cell (k := 8) (by kernel_rfl) (by have e2 : v3 = .slice a l c := e; rw [e2]; rfl) tr3
        exact walk p_call p_kind p_from p_to p_off p_speed p_height c_p_route c_c_fixes c_c_airways k_name k_wake k_ceil k_climb k_desc k_slow k_fast v3 W hL w_p_call w_p_kind w_p_from w_p_to w_p_off w_p_speed w_p_height o_p_route o_c_fixes o_c_airways w_k_name w_k_wake w_k_ceil w_k_climb w_k_desc w_k_slow w_k_fast sl_w)

/-- The statement. -/
theorem row_holds : Rows.FlyWindsSaid :=
  OpenClaim.holds_of_wide 12 Tryd.f12 rfl rfl rfl rfl rfl rfl rfl ⟨rfl, rfl, rfl, rfl, rfl⟩ rfl rfl rfl rfl rfl (by kernel_rfl) Tryd.func12 (by kernel_rfl)
    (of_decide_eq_true (by kernel_rfl)) (by unfold Func.isWrapper; first | (rw [if_pos (by decide +kernel)]; kernel_rfl) | (rw [if_neg (by decide +kernel)]; exact ⟨rfl, rfl⟩))
    (fun os started H enc _ => lifted os started H enc)
/-- The tied card. -/
theorem proved : Rows.FlyWindsCardSaid :=
  Claim7.holds_tied_plain_at .later [] [.data, .data, .data] true (true, "6deb9ba2cff43c15501a76bdf9cd322ddee03e505f7501aaf9f3e71c3bb480ce") false
    row_holds (fun _ h => by cases h) (by kernel_rfl) (fun _ h => by cases h) flyWinds_row_tie rfl ⟨rfl, rfl⟩ (by kernel_rfl) rfl
    (fun f fn hf hfn => by
      obtain rfl : f = 12 := Option.some.inj ((show Tryd.prog.funcNamed "skyway/skywaykeep1.FlyWinds" = some 12 by kernel_rfl).symm.trans hf) |>.symm
      obtain rfl : fn = Tryd.f12 := (Option.some.inj (Tryd.func12.symm.trans hfn)).symm
      exact ⟨by kernel_rfl, fun j t ht => by
        rw [Tryd.params12] at ht
        have hall : ∀ t ∈ [50, 54, 56, 42], Tryd.prog.wantsStandIn t = false := by
          intro t ht
          simp only [List.mem_cons, List.not_mem_nil, or_false] at ht
          rcases ht with rfl | rfl | rfl | rfl <;> kernel_rfl
        exact hall t (List.mem_iff_getElem?.2 ⟨j, by simpa using ht⟩)⟩)
    (by kernel_rfl)
#print axioms proved
end FlyWinds
end Go.Proofs.YtkapllakofndlaaDoor

