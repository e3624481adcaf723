/- TopClosed: when a planned flight enters a closed volume, the volume contains its position at this second. For every input, where math's tables read as Go's library lays them. -/
import Derived.Test.YteieagihdflapaaGreatDoorTopH
import Derived.Test.YteieagihdflapaaGreatDoorJ33
import Derived.Test.YteieagihdflapaaGreatDoorDoorA
import Derived.Test.YteieagihdflapaaGreatDoorJ07
import Derived.Test.YteieagihdflapaaGreatDoorCards
namespace Go.Proofs.YteieagihdflapaaGreatDoor
open Go.RowKit Go.ChangeShapes Go.WideShapes
namespace TopClosed
open Kit Plane Poly Chart Route Vol Path Cls Fly
set_option maxRecDepth 100000 in
set_option maxHeartbeats 8000000 in
theorem go_bad (cl kd f t ks : ByteArray) (off sp h kw ceil climb desc slow fast : Int) (A1 A2 A3 B : Option Addr) (n k1 m k2 nr k3 p d : Nat) (E E2 : Int) (w : World) (hE1 : (E != 0) = true) (WK : Hid (∀ w1, Below w.heap.size w w1 → Calls Tryz.prog 9 #[] w1 fun e w' => e = .returned (.bool true) ∧ Below w1.heap.size w1 w'))
    (EX : Hid (∀ w1, Below w.heap.size w w1 → Calls Tryz.prog 13 #[Plan.plan cl kd f t off sp h (.slice A3 nr k3), .agg #[.slice A1 n k1, .slice A2 m k2]] w1 fun e w' => e = .returned (.tuple #[.slice none 0 0, .int .i64 E]) ∧ Below w1.heap.size w1 w'))
    (PT : Hid (∀ w1, Below w.heap.size w w1 → Calls Tryz.prog 14 #[.slice none 0 0, Plan.plan cl kd f t off sp h (.slice A3 nr k3), .agg #[.string ks, .int .i64 kw, .int .i64 ceil, .int .i64 climb, .int .i64 desc, .int .i64 slow, .int .i64 fast], .slice none 0 0] w1 fun e w' => e = .returned (.tuple #[.slice none 0 0, .int .i64 E2]) ∧ Below w1.heap.size w1 w')) :
    Calls Tryz.prog 4 #[Plan.plan cl kd f t off sp h (.slice A3 nr k3), .agg #[.slice A1 n k1, .slice A2 m k2], .agg #[.string ks, .int .i64 kw, .int .i64 ceil, .int .i64 climb, .int .i64 desc, .int .i64 slow, .int .i64 fast], .slice B p d] w fun e w' => e = .returned (.bool true) ∧ Below w.heap.size w w' := by
  have hE0 : (E == 0) = false := by simpa using hE1
  have n8 := Plan.n8_new w 39 cl kd f t off sp h (.slice A3 nr k3)
  have N0 : Hid (Plan.N8 (((w.alloc (.cells #[.string cl, .string kd, .string f, .string t, .int .i64 off, .int .i64 sp, .int .i64 h, .slice A3 nr k3] 39)).alloc (.cells #[.slice A1 n k1, .slice A2 m k2] 43)).alloc (.cells #[.string ks, .int .i64 kw, .int .i64 ceil, .int .i64 climb, .int .i64 desc, .int .i64 slow, .int .i64 fast] 45)) w.heap.size cl kd f t off sp h (.slice A3 nr k3)) := Lib.hid (Plan.n8_keep (b_alloc (b_alloc (Below.refl _ _) _) _) n8)
  have p2 := p2v_new (w.alloc (.cells #[.string cl, .string kd, .string f, .string t, .int .i64 off, .int .i64 sp, .int .i64 h, .slice A3 nr k3] 39)) 43 (.slice A1 n k1) (.slice A2 m k2)
  rw [World.size_alloc] at p2
  have C0 : Hid (P2V (((w.alloc (.cells #[.string cl, .string kd, .string f, .string t, .int .i64 off, .int .i64 sp, .int .i64 h, .slice A3 nr k3] 39)).alloc (.cells #[.slice A1 n k1, .slice A2 m k2] 43)).alloc (.cells #[.string ks, .int .i64 kw, .int .i64 ceil, .int .i64 climb, .int .i64 desc, .int .i64 slow, .int .i64 fast] 45)) (w.heap.size + 1) (.slice A1 n k1) (.slice A2 m k2)) := Lib.hid (p2v_keep (b_alloc (Below.refl _ _) _) p2)
  have k7 := Kind.k7_new ((w.alloc (.cells #[.string cl, .string kd, .string f, .string t, .int .i64 off, .int .i64 sp, .int .i64 h, .slice A3 nr k3] 39)).alloc (.cells #[.slice A1 n k1, .slice A2 m k2] 43)) 45 ks kw ceil climb desc slow fast
  rw [World.size_alloc, World.size_alloc] at k7
  have K0 := Lib.hid k7
  have W0 := Lib.hid (b_alloc (b_alloc (b_alloc (Below.refl w.heap.size w) (.cells #[.string cl, .string kd, .string f, .string t, .int .i64 off, .int .i64 sp, .int .i64 h, .slice A3 nr k3] 39)) (.cells #[.slice A1 n k1, .slice A2 m k2] 43)) (.cells #[.string ks, .int .i64 kw, .int .i64 ceil, .int .i64 climb, .int .i64 desc, .int .i64 slow, .int .i64 fast] 45))
  clear n8 p2 k7
  go_enter Tryz.func4, Tryz.ntmps4
  go_wp2_with fail
  (with_reducible refine (WK.out _ W0.out).mono ?_); rintro e w1 ⟨rfl, hb⟩
  have W1 := Lib.hid (b_next W0.out hb); have N1 := Lib.hid (Plan.n8_keep hb N0.out); have C1 := Lib.hid (p2v_keep hb C0.out); have K1 := Lib.hid (Kind.k7_keep hb K0.out); clear hb
  obtain ⟨x0, x1, x2, x3, x4, x5, x6, x7⟩ := N1.out
  obtain ⟨y0, y1⟩ := C1.out
  go_wp2_with fail
  (with_reducible refine (EX.out _ W1.out).mono ?_); rintro e w2 ⟨rfl, hb⟩
  have W2 := Lib.hid (b_next W1.out hb); have N2 := Lib.hid (Plan.n8_keep hb N1.out); have K2 := Lib.hid (Kind.k7_keep hb K1.out)
  clear hb x0 x1 x2 x3 x4 x5 x6 x7 y0 y1
  skip
  obtain ⟨x0, x1, x2, x3, x4, x5, x6, x7⟩ := N2.out
  obtain ⟨y0, y1, y2, y3, y4, y5, y6⟩ := K2.out
  go_wp2_with fail
  (with_reducible refine (PT.out _ W2.out).mono ?_); rintro e w3 ⟨rfl, hb⟩
  have W3 := Lib.hid (b_next W2.out hb); clear hb x0 x1 x2 x3 x4 x5 x6 x7 y0 y1 y2 y3 y4 y5 y6
  go_wp2_with fail
  refine d_region (by kernel_rfl) (by kernel_rfl) ?_
  repeat
    first
      | (refine d_plain (by with_reducible rfl) ?_; apply Exists.intro; refine ⟨fun wq hc hq => ?_, ?_⟩)
      | (refine d_on (by with_reducible rfl) (by rfl) (by with_reducible rfl) ?_; apply Exists.intro; refine ⟨fun wq hc hq => ?_, ?_⟩)
      | (refine d_off (by with_reducible rfl) (by rfl) (by rfl) ?_)
      | (refine d_void (by with_reducible rfl) (by rfl) ?_)
    try any_goals
      (skip; clear hc
       go_simp
       first
         | rfl)
    simp only [Act.put, List.setIfInBounds_toArray, List.set_cons_zero, List.set_cons_succ]
  refine d_nil ?_
  intro w4 hb4
  have W4 := Lib.hid (b_next W3.out hb4); clear hb4
  go_wp2_with fail
  go_ret
  exact ⟨by first | rfl | exact retb rfl, W4.out⟩
set_option maxRecDepth 100000 in
set_option maxHeartbeats 8000000 in
theorem go_no (cl kd f t ks : ByteArray) (off sp h kw ceil climb desc slow fast : Int) (A1 A2 A3 B : Option Addr) (n k1 m k2 nr k3 p d : Nat) (E2 : Int) (q : Nat) (NN : Nat → ByteArray) (X Y : Nat → Int) (w : World) (hE1 : (E2 != 0) = true) (WK : Hid (∀ w1, Below w.heap.size w w1 → Calls Tryz.prog 9 #[] w1 fun e w' => e = .returned (.bool true) ∧ Below w1.heap.size w1 w'))
    (EX : Hid (∀ w1, Below w.heap.size w w1 → Calls Tryz.prog 13 #[Plan.plan cl kd f t off sp h (.slice A3 nr k3), .agg #[.slice A1 n k1, .slice A2 m k2]] w1 fun e w' => (∃ v, e = .returned (.tuple #[v, .int .i64 0]) ∧ FV w' v q NN X Y) ∧ Below w1.heap.size w1 w'))
    (PT : Hid (∀ w1 v, Below w.heap.size w w1 → FV w1 v q NN X Y → Calls Tryz.prog 14 #[v, Plan.plan cl kd f t off sp h (.slice A3 nr k3), .agg #[.string ks, .int .i64 kw, .int .i64 ceil, .int .i64 climb, .int .i64 desc, .int .i64 slow, .int .i64 fast], .slice none 0 0] w1 fun e w' => e = .returned (.tuple #[.slice none 0 0, .int .i64 E2]) ∧ Below w1.heap.size w1 w')) :
    Calls Tryz.prog 4 #[Plan.plan cl kd f t off sp h (.slice A3 nr k3), .agg #[.slice A1 n k1, .slice A2 m k2], .agg #[.string ks, .int .i64 kw, .int .i64 ceil, .int .i64 climb, .int .i64 desc, .int .i64 slow, .int .i64 fast], .slice B p d] w fun e w' => e = .returned (.bool true) ∧ Below w.heap.size w w' := by
  have hE0 : (E2 == 0) = false := by simpa using hE1
  have n8 := Plan.n8_new w 39 cl kd f t off sp h (.slice A3 nr k3)
  have N0 : Hid (Plan.N8 (((w.alloc (.cells #[.string cl, .string kd, .string f, .string t, .int .i64 off, .int .i64 sp, .int .i64 h, .slice A3 nr k3] 39)).alloc (.cells #[.slice A1 n k1, .slice A2 m k2] 43)).alloc (.cells #[.string ks, .int .i64 kw, .int .i64 ceil, .int .i64 climb, .int .i64 desc, .int .i64 slow, .int .i64 fast] 45)) w.heap.size cl kd f t off sp h (.slice A3 nr k3)) := Lib.hid (Plan.n8_keep (b_alloc (b_alloc (Below.refl _ _) _) _) n8)
  have p2 := p2v_new (w.alloc (.cells #[.string cl, .string kd, .string f, .string t, .int .i64 off, .int .i64 sp, .int .i64 h, .slice A3 nr k3] 39)) 43 (.slice A1 n k1) (.slice A2 m k2)
  rw [World.size_alloc] at p2
  have C0 : Hid (P2V (((w.alloc (.cells #[.string cl, .string kd, .string f, .string t, .int .i64 off, .int .i64 sp, .int .i64 h, .slice A3 nr k3] 39)).alloc (.cells #[.slice A1 n k1, .slice A2 m k2] 43)).alloc (.cells #[.string ks, .int .i64 kw, .int .i64 ceil, .int .i64 climb, .int .i64 desc, .int .i64 slow, .int .i64 fast] 45)) (w.heap.size + 1) (.slice A1 n k1) (.slice A2 m k2)) := Lib.hid (p2v_keep (b_alloc (Below.refl _ _) _) p2)
  have k7 := Kind.k7_new ((w.alloc (.cells #[.string cl, .string kd, .string f, .string t, .int .i64 off, .int .i64 sp, .int .i64 h, .slice A3 nr k3] 39)).alloc (.cells #[.slice A1 n k1, .slice A2 m k2] 43)) 45 ks kw ceil climb desc slow fast
  rw [World.size_alloc, World.size_alloc] at k7
  have K0 := Lib.hid k7
  have W0 := Lib.hid (b_alloc (b_alloc (b_alloc (Below.refl w.heap.size w) (.cells #[.string cl, .string kd, .string f, .string t, .int .i64 off, .int .i64 sp, .int .i64 h, .slice A3 nr k3] 39)) (.cells #[.slice A1 n k1, .slice A2 m k2] 43)) (.cells #[.string ks, .int .i64 kw, .int .i64 ceil, .int .i64 climb, .int .i64 desc, .int .i64 slow, .int .i64 fast] 45))
  clear n8 p2 k7
  go_enter Tryz.func4, Tryz.ntmps4
  go_wp2_with fail
  (with_reducible refine (WK.out _ W0.out).mono ?_); rintro e w1 ⟨rfl, hb⟩
  have W1 := Lib.hid (b_next W0.out hb); have N1 := Lib.hid (Plan.n8_keep hb N0.out); have C1 := Lib.hid (p2v_keep hb C0.out); have K1 := Lib.hid (Kind.k7_keep hb K0.out); clear hb
  obtain ⟨x0, x1, x2, x3, x4, x5, x6, x7⟩ := N1.out
  obtain ⟨y0, y1⟩ := C1.out
  go_wp2_with fail
  (with_reducible refine (EX.out _ W1.out).mono ?_); rintro e w2 ⟨⟨v, rfl, hfv⟩, hb⟩
  have W2 := Lib.hid (b_next W1.out hb); have N2 := Lib.hid (Plan.n8_keep hb N1.out); have K2 := Lib.hid (Kind.k7_keep hb K1.out)
  clear hb x0 x1 x2 x3 x4 x5 x6 x7 y0 y1
  have FV2 := Lib.hid hfv; obtain ⟨Av, cv, rfl⟩ := fv_slice hfv; clear hfv
  obtain ⟨x0, x1, x2, x3, x4, x5, x6, x7⟩ := N2.out
  obtain ⟨y0, y1, y2, y3, y4, y5, y6⟩ := K2.out
  go_wp2_with fail
  (with_reducible refine (PT.out _ _ W2.out FV2.out).mono ?_); rintro e w3 ⟨rfl, hb⟩
  have W3 := Lib.hid (b_next W2.out hb); clear hb x0 x1 x2 x3 x4 x5 x6 x7 y0 y1 y2 y3 y4 y5 y6
  go_wp2_with fail
  refine d_region (by kernel_rfl) (by kernel_rfl) ?_
  repeat
    first
      | (refine d_plain (by with_reducible rfl) ?_; apply Exists.intro; refine ⟨fun wq hc hq => ?_, ?_⟩)
      | (refine d_on (by with_reducible rfl) (by rfl) (by with_reducible rfl) ?_; apply Exists.intro; refine ⟨fun wq hc hq => ?_, ?_⟩)
      | (refine d_off (by with_reducible rfl) (by rfl) (by rfl) ?_)
      | (refine d_void (by with_reducible rfl) (by rfl) ?_)
    try any_goals
      (skip; clear hc
       go_simp
       first
         | rfl)
    simp only [Act.put, List.setIfInBounds_toArray, List.set_cons_zero, List.set_cons_succ]
  refine d_nil ?_
  intro w4 hb4
  have W4 := Lib.hid (b_next W3.out hb4); clear hb4
  go_wp2_with fail
  go_ret
  exact ⟨by first | rfl | exact retb rfl, W4.out⟩
/-- What fly.Closed answers at a path. -/
def ClX (M : Nat) (T' X' Y' H' : Nat → Int) (p : Nat) (D : Nat → Vd) (e : Ending) : Prop :=
  (∃ E : Int, E ≠ 0 ∧ e = .returned (.tuple #[.string ⟨#[]⟩, .int .i64 0, .int .i64 E])) ∨
  ∃ (t : Int) (k : Nat), k < p ∧ pok T' X' Y' H' M ∧ T' 0 ≤ t ∧ t ≤ T' (M - 1) ∧ (∀ j, j < k → (D j).N ≠ (D k).N) ∧ (pck (D k).n (D k).X (D k).Y = 0 ∧ (0 ≤ (D k).l ∧ (D k).h ≤ 60001 ∧ (D k).l < (D k).h)) ∧ inV M T' X' Y' H' (D k) t = true ∧ e = .returned (.tuple #[.string (D k).N, .int .i64 t, .int .i64 0])
set_option maxRecDepth 100000 in
set_option maxHeartbeats 8000000 in
theorem go_ok (cl kd f t ks : ByteArray) (off sp h kw ceil climb desc slow fast : Int) (A1 A2 A3 B : Option Addr) (n k1 m k2 nr k3 p d : Nat) (q M : Nat) (NN : Nat → ByteArray) (X Y T' X' Y' H' : Nat → Int) (D : Nat → Vd) (w : World) (hpd : p ≤ d) (hd9 : d ≤ 9223372036854775807) (WK : Hid (∀ w1, Below w.heap.size w w1 → Calls Tryz.prog 9 #[] w1 fun e w' => e = .returned (.bool true) ∧ Below w1.heap.size w1 w'))
    (EX : Hid (∀ w1, Below w.heap.size w w1 → Calls Tryz.prog 13 #[Plan.plan cl kd f t off sp h (.slice A3 nr k3), .agg #[.slice A1 n k1, .slice A2 m k2]] w1 fun e w' => (∃ v, e = .returned (.tuple #[v, .int .i64 0]) ∧ FV w' v q NN X Y) ∧ Below w1.heap.size w1 w'))
    (PT : Hid (∀ w1 v, Below w.heap.size w w1 → FV w1 v q NN X Y → Calls Tryz.prog 14 #[v, Plan.plan cl kd f t off sp h (.slice A3 nr k3), .agg #[.string ks, .int .i64 kw, .int .i64 ceil, .int .i64 climb, .int .i64 desc, .int .i64 slow, .int .i64 fast], .slice none 0 0] w1 fun e w' => (∃ v, e = .returned (.tuple #[v, .int .i64 0]) ∧ PV w' v M T' X' Y' H') ∧ Below w1.heap.size w1 w'))
    (HV : Hid (RV w (.slice B p d) p D)) (CL : Hid (∀ w1 v, Below w.heap.size w w1 → PV w1 v M T' X' Y' H' → Calls Tryz.prog 15 #[v, .slice B p d] w1 fun e w' => ClX M T' X' Y' H' p D e ∧ Below w1.heap.size w1 w')) :
    Calls Tryz.prog 4 #[Plan.plan cl kd f t off sp h (.slice A3 nr k3), .agg #[.slice A1 n k1, .slice A2 m k2], .agg #[.string ks, .int .i64 kw, .int .i64 ceil, .int .i64 climb, .int .i64 desc, .int .i64 slow, .int .i64 fast], .slice B p d] w fun e w' => e = .returned (.bool true) ∧ Below w.heap.size w w' := by
  have n8 := Plan.n8_new w 39 cl kd f t off sp h (.slice A3 nr k3)
  have N0 : Hid (Plan.N8 (((w.alloc (.cells #[.string cl, .string kd, .string f, .string t, .int .i64 off, .int .i64 sp, .int .i64 h, .slice A3 nr k3] 39)).alloc (.cells #[.slice A1 n k1, .slice A2 m k2] 43)).alloc (.cells #[.string ks, .int .i64 kw, .int .i64 ceil, .int .i64 climb, .int .i64 desc, .int .i64 slow, .int .i64 fast] 45)) w.heap.size cl kd f t off sp h (.slice A3 nr k3)) := Lib.hid (Plan.n8_keep (b_alloc (b_alloc (Below.refl _ _) _) _) n8)
  have p2 := p2v_new (w.alloc (.cells #[.string cl, .string kd, .string f, .string t, .int .i64 off, .int .i64 sp, .int .i64 h, .slice A3 nr k3] 39)) 43 (.slice A1 n k1) (.slice A2 m k2)
  rw [World.size_alloc] at p2
  have C0 : Hid (P2V (((w.alloc (.cells #[.string cl, .string kd, .string f, .string t, .int .i64 off, .int .i64 sp, .int .i64 h, .slice A3 nr k3] 39)).alloc (.cells #[.slice A1 n k1, .slice A2 m k2] 43)).alloc (.cells #[.string ks, .int .i64 kw, .int .i64 ceil, .int .i64 climb, .int .i64 desc, .int .i64 slow, .int .i64 fast] 45)) (w.heap.size + 1) (.slice A1 n k1) (.slice A2 m k2)) := Lib.hid (p2v_keep (b_alloc (Below.refl _ _) _) p2)
  have k7 := Kind.k7_new ((w.alloc (.cells #[.string cl, .string kd, .string f, .string t, .int .i64 off, .int .i64 sp, .int .i64 h, .slice A3 nr k3] 39)).alloc (.cells #[.slice A1 n k1, .slice A2 m k2] 43)) 45 ks kw ceil climb desc slow fast
  rw [World.size_alloc, World.size_alloc] at k7
  have K0 := Lib.hid k7
  have W0 := Lib.hid (b_alloc (b_alloc (b_alloc (Below.refl w.heap.size w) (.cells #[.string cl, .string kd, .string f, .string t, .int .i64 off, .int .i64 sp, .int .i64 h, .slice A3 nr k3] 39)) (.cells #[.slice A1 n k1, .slice A2 m k2] 43)) (.cells #[.string ks, .int .i64 kw, .int .i64 ceil, .int .i64 climb, .int .i64 desc, .int .i64 slow, .int .i64 fast] 45))
  clear n8 p2 k7
  go_enter Tryz.func4, Tryz.ntmps4
  go_wp2_with fail
  (with_reducible refine (WK.out _ W0.out).mono ?_); rintro e w1 ⟨rfl, hb⟩
  have W1 := Lib.hid (b_next W0.out hb); have N1 := Lib.hid (Plan.n8_keep hb N0.out); have C1 := Lib.hid (p2v_keep hb C0.out); have K1 := Lib.hid (Kind.k7_keep hb K0.out); clear hb
  obtain ⟨x0, x1, x2, x3, x4, x5, x6, x7⟩ := N1.out
  obtain ⟨y0, y1⟩ := C1.out
  go_wp2_with fail
  (with_reducible refine (EX.out _ W1.out).mono ?_); rintro e w2 ⟨⟨v, rfl, hfv⟩, hb⟩
  have W2 := Lib.hid (b_next W1.out hb); have N2 := Lib.hid (Plan.n8_keep hb N1.out); have K2 := Lib.hid (Kind.k7_keep hb K1.out)
  clear hb x0 x1 x2 x3 x4 x5 x6 x7 y0 y1
  have FV2 := Lib.hid hfv; obtain ⟨Av, cv, rfl⟩ := fv_slice hfv; clear hfv
  obtain ⟨x0, x1, x2, x3, x4, x5, x6, x7⟩ := N2.out
  obtain ⟨y0, y1, y2, y3, y4, y5, y6⟩ := K2.out
  go_wp2_with fail
  (with_reducible refine (PT.out _ _ W2.out FV2.out).mono ?_); rintro e w3 ⟨⟨v2, rfl, hpv⟩, hb⟩
  have W3 := Lib.hid (b_next W2.out hb); have P3 := Lib.hid hpv; clear hpv hb x0 x1 x2 x3 x4 x5 x6 x7 y0 y1 y2 y3 y4 y5 y6
  have hsl : ∃ A c, v2 = .slice A M c ∧ M ≤ c ∧ c ≤ maxLen ∧ (0 < M → ∃ b off, A = some ⟨b, off, none⟩ ∧ w3.cell? ⟨b, off, none⟩ = some (.int .i64 (T' 0)) ∧ w3.cell? ⟨b, off + (M - 1) * 4, none⟩ = some (.int .i64 (T' (M - 1)))) := by
    rcases P3.out with ⟨rfl, rfl | ⟨a, cap, rfl, hm⟩⟩ | ⟨h0, b, off, cap, rfl, h1, h2, h3⟩
    · exact ⟨_, _, rfl, Nat.le_refl _, Nat.zero_le _, fun h => absurd h (Nat.lt_irrefl 0)⟩
    · exact ⟨_, _, rfl, Nat.zero_le _, hm, fun h => absurd h (Nat.lt_irrefl 0)⟩
    · have a := (h3 0 h0).1.1
      rw [Nat.zero_mul, Nat.add_zero] at a
      exact ⟨_, _, rfl, h1, h2, fun _ => ⟨b, off, rfl, a, (h3 (M - 1) (by omega)).1.1⟩⟩
  obtain ⟨Ap, cp, rfl, hMc, hcm, hcells⟩ := hsl
  have hcp9 : cp ≤ 9223372036854775807 := Nat.le_trans hcm (by decide)
  clear hcm
  go_wp2_with fail
  by_cases hM : M = 0
  · subst hM
    have hz : ((0 : Nat) : Int) = 0 := rfl
    clear hcells
    refine d_region (by kernel_rfl) (by kernel_rfl) ?_
    repeat
      first
        | (refine d_plain (by with_reducible rfl) ?_; apply Exists.intro; refine ⟨fun wq hc hq => ?_, ?_⟩)
        | (refine d_on (by with_reducible rfl) (by rfl) (by with_reducible rfl) ?_; apply Exists.intro; refine ⟨fun wq hc hq => ?_, ?_⟩)
        | (refine d_off (by with_reducible rfl) (by rfl) (by rfl) ?_)
        | (refine d_void (by with_reducible rfl) (by rfl) ?_)
      try any_goals
        (skip; clear hc
         go_simp
         first
           | rfl)
      simp only [Act.put, List.setIfInBounds_toArray, List.set_cons_zero, List.set_cons_succ]
    refine d_nil ?_
    intro w4 hb4
    have W4 := Lib.hid (b_next W3.out hb4); clear hb4
    go_wp2_with fail
    go_ret
    exact ⟨by first | rfl | exact retb rfl, W4.out⟩
  obtain ⟨b, off, rfl, c0, cP⟩ := hcells (by omega)
  obtain ⟨P, hP⟩ : ∃ P, P = M - 1 := ⟨_, rfl⟩
  rw [← hP] at cP
  have hM0 : (0 : Int) < (M : Int) := by omega
  have hM4 : 0 < M := by omega
  have hM1 : ¬ (M : Int) = 0 := by omega
  have hM2 : ((M : Int) == 0) = false := by simpa using hM1
  have hM3 : (M == 0) = false := by simpa using hM
  have hix : (M : Int) - 1 = (P : Int) := by omega
  have hPM : (P : Int) < (M : Int) := by omega
  have hwn : IntKind.i64.wrap (P : Int) = (P : Int) := IntWalk.i64_in _ (by omega)
  obtain ⟨DD, hDD⟩ : ∃ DD, IntKind.i64.wrap (T' P - T' 0) = DD := ⟨_, rfl⟩
  have HP := Lib.hid hP; clear hcells hP
  by_cases h15 : 1500 < DD
  · have g1 := decide_eq_true h15
    refine d_region (by kernel_rfl) (by kernel_rfl) ?_
    repeat
      first
        | (refine d_plain (by with_reducible rfl) ?_; apply Exists.intro; refine ⟨fun wq hc hq => ?_, ?_⟩)
        | (refine d_on (by with_reducible rfl) (by rfl) (by with_reducible rfl) ?_; apply Exists.intro; refine ⟨fun wq hc hq => ?_, ?_⟩)
        | (refine d_off (by with_reducible rfl) (by rfl) (by rfl) ?_)
        | (refine d_void (by with_reducible rfl) (by rfl) ?_)
      try any_goals
        (have l0 := keep hq c0; have l1 := keep hq cP; clear hc
         go_simp
         first
           | rfl)
      simp only [Act.put, List.setIfInBounds_toArray, List.set_cons_zero, List.set_cons_succ]
    refine d_nil ?_
    intro w4 hb4
    have W4 := Lib.hid (b_next W3.out hb4); clear hb4
    go_wp2_with fail
    go_ret
    exact ⟨by first | rfl | exact retb rfl, W4.out⟩
  have g1 := decide_eq_false h15
  refine d_region (by kernel_rfl) (by kernel_rfl) ?_
  repeat
    first
      | (refine d_plain (by with_reducible rfl) ?_; apply Exists.intro; refine ⟨fun wq hc hq => ?_, ?_⟩)
      | (refine d_on (by with_reducible rfl) (by rfl) (by with_reducible rfl) ?_; apply Exists.intro; refine ⟨fun wq hc hq => ?_, ?_⟩)
      | (refine d_off (by with_reducible rfl) (by rfl) (by rfl) ?_)
      | (refine d_void (by with_reducible rfl) (by rfl) ?_)
    try any_goals
      (have l0 := keep hq c0; have l1 := keep hq cP; clear hc
       go_simp
       first
         | rfl)
    simp only [Act.put, List.setIfInBounds_toArray, List.set_cons_zero, List.set_cons_succ]
  refine d_nil ?_
  intro w4 hb4
  have W4 := Lib.hid (b_next W3.out hb4); have P4 := Lib.hid (pv_keep hb4 P3.out); clear hb4 c0 cP hDD h15 g1
  go_wp2_with fail
  (with_reducible refine (CL.out _ _ W4.out P4.out).mono ?_); rintro e w5 ⟨hcl, hb⟩
  have W5 := Lib.hid (b_next W4.out hb); have P5 := Lib.hid (pv_keep hb P4.out); clear hb
  rcases hcl with ⟨E, hE, rfl⟩ | ⟨t, k, hk, hpok, ht0, ht1, hnm, hvk, hin, rfl⟩
  · have hE1 : (E != 0) = true := by simpa using hE
    have hE2 : (E == 0) = false := by simpa using hE
    clear hE
    go_wp2_with fail
    go_ret
    exact ⟨by first | rfl | exact retb rfl, W5.out⟩
  have nok := node_ok hpok ht0 ht1
  have AC := Lib.hid fun (w' : World) (hb : Below w5.heap.size w5 w') => fly_At_ok (pv_keep hb P5.out) (t := t) (i := sg T' M t) (by
    unfold atE; rw [if_neg (fun q => q ((pchk_zero M).2 hpok)), if_neg (by omega)]) (seg_sg hpok.1 ht0)
  have AC2 : Hid (Calls Tryz.prog 16 #[.slice (some ⟨b, off, none⟩) M cp, .int .i64 t] w5 fun e w' => e = .returned (.tuple #[.agg #[.int .i64 t, .int .i64 (px M T' X' t), .int .i64 (py M T' Y' t), .int .i64 (ph M T' H' t)], .int .i64 0]) ∧ Below w5.heap.size w5 w') := Lib.hid (AC.out w5 (Below.refl _ _))
  have NOK := Lib.hid nok; have HIN := Lib.hid hin; have HNM := Lib.hid hnm; have HVK := Lib.hid hvk
  clear nok hin hnm hvk AC hpok ht0 ht1
  have IVD : Hid (inV M T' X' Y' H' (D k) t = (durB (D k).m (D k).F (D k).T t && decide (0 ≤ place (D k).n (D k).X (D k).Y (px M T' X' t) (py M T' Y' t) ∧ (D k).l ≤ ph M T' H' t ∧ ph M T' H' t < (D k).h))) := Lib.hid rfl
  generalize px M T' X' t = qx at *
  generalize py M T' Y' t = qy at *
  generalize ph M T' H' t = qh at *
  obtain ⟨NK, hNK⟩ : ∃ NK, NK = (D k).N := ⟨_, rfl⟩
  rw [← hNK]
  have HNK := Lib.hid hNK; clear hNK
  go_wp2_with fail
  (with_reducible refine AC2.out.mono ?_); rintro e w6 ⟨rfl, hb⟩
  have W6 := Lib.hid (b_next W5.out hb); clear hb
  have BN := Lib.hid (c4_new w6 56 t qx qy qh)
  have W7 := Lib.hid (b_alloc W6.out (.cells #[.int .i64 t, .int .i64 qx, .int .i64 qy, .int .i64 qh] 56))
  obtain ⟨bn, hbn⟩ : ∃ bn, bn = w6.heap.size := ⟨_, rfl⟩
  go_wp2_with fail
  rw [← hbn] at BN ⊢
  clear hbn
  generalize w6.alloc (.cells #[.int .i64 t, .int .i64 qx, .int .i64 qy, .int .i64 qh] 56) = w7 at *
  go_loopw [93] (fun s wr => ∃ j : Nat, j ≤ k ∧ s = .int .i64 j ∧ Below w7.heap.size w7 wr) (fun s _ => p - (intOf s).toNat)
  case atStart => exact ⟨0, Nat.zero_le _, rfl, Below.refl _ _⟩
  case round =>
    obtain ⟨j, hj, rfl, hbl⟩ := hrel
    have WR := Lib.hid (b_next W7.out hbl); have BR := Lib.hid (c4_keep hbl BN.out)
    have hlt : j < p := by omega
    have hl : (j : Int) < (p : Int) := by omega
    obtain ⟨vb, vo, c', e, hv1, hv2, h3⟩ := rv_at (rv_keep WR.out HV.out) (by omega)
    injection e with e1 _ e3
    subst e1 e3
    obtain ⟨va, vc, c5, qa, qc⟩ := h3 j hlt
    obtain ⟨V1, ca1, rfl, -⟩ := qv_slice qa
    obtain ⟨V2, ca2, rfl, -⟩ := qv_slice qc
    have WA := b_alloc (Below.refl wr.heap.size wr) (.cells #[.string (D j).N, .slice V1 (D j).n ca1, .int .i64 (D j).l, .int .i64 (D j).h, .slice V2 (D j).m ca2] 66)
    have NA := Lib.hid (v5_new wr 66 (D j).N (.slice V1 (D j).n ca1) (D j).l (D j).h (.slice V2 (D j).m ca2))
    have WAH := Lib.hid WA
    have BA := Lib.hid (c4_keep WA BR.out)
    have WR2 := Lib.hid (b_next hbl WA)
    have DQ : Hid (((D j).N.toList == NK.toList) = decide (j = k)) := Lib.hid (by
      rw [seq_eq]
      by_cases hjk : j = k
      · rw [HNK.out, hjk, decide_eq_true rfl, decide_eq_true rfl]
      · rw [decide_eq_false hjk]
        exact decide_eq_false fun e => HNM.out j (by omega) (by rw [e, HNK.out]))
    have HC := Lib.hid fun (hjk : j = k) => (by
      subst hjk
      have q := has_one (qv_keep WA qa) HVK.out.1 HVK.out.2 NOK.out.1 NOK.out.2
      have hin := HIN.out
      rw [IVD.out, Bool.and_eq_true] at hin
      rw [hin.2] at q; exact q : Calls Tryz.prog 17 #[.agg #[.slice V1 (D j).n ca1, .int .i64 (D j).l, .int .i64 (D j).h], .agg #[.int .i64 qx, .int .i64 qy], .int .i64 qh] (wr.alloc (.cells #[.string (D j).N, .slice V1 (D j).n ca1, .int .i64 (D j).l, .int .i64 (D j).h, .slice V2 (D j).m ca2] 66)) fun e w' => e = .returned (.tuple #[.bool true, .int .i64 0]) ∧ Below (wr.alloc (.cells #[.string (D j).N, .slice V1 (D j).n ca1, .int .i64 (D j).l, .int .i64 (D j).h, .slice V2 (D j).m ca2] 66)).heap.size (wr.alloc (.cells #[.string (D j).N, .slice V1 (D j).n ca1, .int .i64 (D j).l, .int .i64 (D j).h, .slice V2 (D j).m ca2] 66)) w')
    obtain ⟨x0, x1, x2, x3, x4⟩ := c5
    clear hbl h3 qa qc WA
    obtain ⟨⟨u0, u1⟩, u2, u3⟩ := BA.out
    by_cases hjk : j = k
    · have dq := DQ.out
      rw [decide_eq_true hjk] at dq
      have HC2 := Lib.hid (HC.out hjk)
      clear HC hjk
      go_wp2_with fail
      (with_reducible refine HC2.out.mono ?_); rintro e w8 ⟨rfl, hb⟩
      have W8 := Lib.hid (b_next W7.out (b_next WR2.out hb)); clear hb
      go_wp2_with fail
      go_ret
      exact ⟨by first | rfl | exact retb rfl, W8.out⟩
    · have dq := DQ.out
      rw [decide_eq_false hjk] at dq
      clear HC
      go_wp2_with fail
      go_roundw
      case rel => exact ⟨j + 1, by omega, by go_num, WR2.out⟩
      case measure => simp [intOf]; omega
/-- What fly.Closed answers at a path and volumes, as 'go_ok' wants it. -/
theorem cl_of {w1 : World} {v : Value} {B : Option Addr} {p d M : Nat} {T' X' Y' H' : Nat → Int} {D : Nat → Vd} (hd1 : p ≤ d) (hd2 : d ≤ maxLen) (hr : RV w1 (.slice B p d) p D) (hv : PV w1 v M T' X' Y' H') :
    Calls Tryz.prog 15 #[v, .slice B p d] w1 fun e w' => ClX M T' X' Y' H' p D e ∧ Below w1.heap.size w1 w' := by
  have CK := fun w2 (hb : Below w1.heap.size w1 w2) => Path.checkC hv w2 hb
  have CV := fun w2 (hb : Below w1.heap.size w1 w2) => rvC hr w2 hb
  by_cases hE : pchk T' X' Y' H' M = 0
  · have hp := (pchk_zero M).1 hE
    by_cases hF : rvck p D = 0
    · obtain ⟨hm16, hok⟩ := rvck_ok hF
      have hv' := hv
      rcases hv with ⟨h0, -⟩ | ⟨h0, b, off, c, rfl, h1, h2, h3⟩
      · have := hp.1; omega
      refine (closed_ok b off M c B p d T' X' Y' H' D w1 h1 h2 hm16 hd1 hd2 h0 hp.2.1 (Lib.hid hp) (Lib.hid hv') (Lib.hid fun k hk => h3 k hk) (Lib.hid hr) (Lib.hid fun k hk => (hok k hk).2)
          (Lib.hid fun w2 hb2 => by have q := CK w2 hb2; rw [hE] at q; exact q) (Lib.hid fun w2 hb2 => by have q := CV w2 hb2; rw [hF] at q; exact q)).mono fun e w' ⟨hc, hb⟩ => ⟨?_, hb⟩
      rcases hc with ⟨he, -⟩ | ⟨t, k, ⟨ht0, ht1⟩, hk, hin, -, he⟩
      · exact Or.inl ⟨8, by decide, he⟩
      · exact Or.inr ⟨t, k, hk, hp, ht0, ht1, (hok k hk).1, ⟨(hok k hk).2.1, (hok k hk).2.2.1⟩, hin, he⟩
    · exact (closed_bad2 _ _ (rvck p D) w1 (by simpa using hF) (Lib.hid fun w2 hb2 => by have q := CK w2 hb2; rw [hE] at q; exact q) (Lib.hid fun w2 hb2 => CV w2 hb2)).mono fun e w' ⟨he, hb⟩ => ⟨Or.inl ⟨_, hF, he⟩, hb⟩
  · exact (closed_bad _ _ (pchk T' X' Y' H' M) w1 (by simpa using hE) (Lib.hid fun w2 hb2 => CK w2 hb2)).mono fun e w' ⟨he, hb⟩ => ⟨Or.inl ⟨_, hE, he⟩, hb⟩
theorem walk (cl kd f t : ByteArray) (off sp h : Int) (p_route c_fixes c_airways : Value) (ks : ByteArray) (kw ceil climb desc slow fast : Int) (vv : Value) (W : World) (hL : laidMetH Tryz.prog Door.laid W) (_h0 : cl.size ≤ maxLen) (_h1 : kd.size ≤ maxLen) (_h2 : f.size ≤ maxLen) (_h3 : t.size ≤ maxLen) (_h4 : -9223372036854775808 ≤ off ∧ off ≤ 9223372036854775807) (_h5 : -9223372036854775808 ≤ sp ∧ sp ≤ 9223372036854775807) (_h6 : -9223372036854775808 ≤ h ∧ h ≤ 9223372036854775807) (h_p_route : Frame.Okc W (.sl [.str]) p_route) (h_c_fixes : Frame.Okc W (.sl [.str, .int, .int]) c_fixes) (h_c_airways : Frame.Okc W (.sl [.str, .sl [.str]]) c_airways) (_h7 : ks.size ≤ maxLen) (_h8 : -9223372036854775808 ≤ kw ∧ kw ≤ 9223372036854775807) (_h9 : -9223372036854775808 ≤ ceil ∧ ceil ≤ 9223372036854775807) (_ha : -9223372036854775808 ≤ climb ∧ climb ≤ 9223372036854775807) (_hb : -9223372036854775808 ≤ desc ∧ desc ≤ 9223372036854775807) (_hc : -9223372036854775808 ≤ slow ∧ slow ≤ 9223372036854775807) (_hd : -9223372036854775808 ≤ fast ∧ fast ≤ 9223372036854775807) (h_v : Frame.Okc W (.sl [.str, .sl [.int, .int], .int, .int, .sl [.int, .int]]) vv) :
    Calls Tryz.prog 4 #[.agg #[.string cl, .string kd, .string f, .string t, .int .i64 off, .int .i64 sp, .int .i64 h, p_route], .agg #[c_fixes, c_airways], .agg #[.string ks, .int .i64 kw, .int .i64 ceil, .int .i64 climb, .int .i64 desc, .int .i64 slow, .int .i64 fast], vv] W fun e w' => e = .returned (.bool true) ∧ Below W.heap.size W w' := by
  have TB := Door.tabs_of hL
  have WK := fun w1 (hb : Below W.heap.size W w1) => Top.h05Works (Ang.tabs_keep hb TB)
  obtain ⟨nr, RT, hr⟩ := sv_of h_p_route
  obtain ⟨n, N, X, Y, m, M, l, S, hc⟩ := cv_of h_c_fixes h_c_airways
  obtain ⟨p, D, hrv⟩ := rv_of h_v
  have hrv' := hrv
  obtain ⟨B, d, rfl, hd1, hd2⟩ := rv_slice hrv
  have hd9 : d ≤ 9223372036854775807 := Nat.le_trans hd2 (by decide)
  have E := fun w1 (hb : Below W.heap.size W w1) => expandC (cl := cl) (kd := kd) (f := f) (t := t) (off := off) (sp := sp) (h := h) (sv_keep hb hr) (cv_keep hb hc)
  have PTH := fun w1 v (k : Nat) (NN : Nat → ByteArray) (X' Y' : Nat → Int) (hb : Below W.heap.size W w1) (hv : FV w1 v k NN X' Y') => pathC (cl := cl) (kd := kd) (fr := f) (t := t) (ks := ks) (off := off) (sp := sp) (h := h) (kw := kw) (ceil := ceil) (climb := climb) (desc := desc) (slow := slow) (fast := fast) (Ang.tabs_keep hb TB) hv (sv_keep hb hr) (show Wind.WV w1 (.slice none 0 0) 0 (fun _ => 0) (fun _ => 0) (fun _ => 0) (fun _ => 0) (fun _ => 0) from Or.inl ⟨rfl, Or.inl rfl⟩) w1 (Below.refl _ _)
  obtain ⟨fx', a', e, hf, ha⟩ := hc.ex
  injection e with e
  obtain ⟨rfl, rfl⟩ : c_fixes = fx' ∧ c_airways = a' := by simpa using e
  clear e
  obtain ⟨A3, c3, rfl⟩ := sv_slice hr
  obtain ⟨A1, c1, rfl⟩ := fv_slice hf
  obtain ⟨A2, c2, rfl⟩ := av_slice ha
  by_cases hE : rtE n N X Y m M l S cl kd f t off sp h nr RT = 0
  · obtain ⟨T, hT⟩ : ∃ T, T = rts m M l S f t (lst nr RT) := ⟨_, rfl⟩
    obtain ⟨FX, hFX⟩ : ∃ FX : Nat → Int, FX = fun j => X (pos n N (nth T j)) := ⟨_, rfl⟩
    obtain ⟨FY, hFY⟩ : ∃ FY : Nat → Int, FY = fun j => Y (pos n N (nth T j)) := ⟨_, rfl⟩
    have EX : ∀ w1, Below W.heap.size W w1 → Calls Tryz.prog 13 #[Plan.plan cl kd f t off sp h (.slice A3 nr c3), .agg #[.slice A1 n c1, .slice A2 m c2]] w1 fun e w' => (∃ v, e = .returned (.tuple #[v, .int .i64 0]) ∧ FV w' v T.length (nth T) FX FY) ∧ Below w1.heap.size w1 w' := fun w1 hb => (E w1 hb).mono fun e w' ⟨hp, hb'⟩ => by
      rcases hp with ⟨h0, -⟩ | ⟨-, v, he, hv⟩
      · exact absurd hE h0
      · rw [← hT] at hv; rw [hFX, hFY]; exact ⟨⟨v, he, hv⟩, hb'⟩
    have P := fun w1 v hb (hv : FV w1 v T.length (nth T) FX FY) => PTH w1 v T.length (nth T) FX FY hb hv
    clear hT hFX hFY E PTH
    by_cases hE2 : pthE T.length FX FY cl kd f t ks off sp h kw ceil climb desc slow fast nr RT 0 (fun _ => 0) (fun _ => 0) (fun _ => 0) (fun _ => 0) (fun _ => 0) = 0
    · obtain ⟨hn, e1, e2, e3, hce, e4, hz⟩ := fck_zero hE2
      have g1 : rck T.length FX FY = 0 := by
        unfold rlen at e1
        split at e1
        · exact absurd e1 (by assumption)
        · rename_i q; exact Classical.not_not.1 q
      obtain ⟨-, hg⟩ := rck_ok g1
      have hp := plan_zero e2
      have hk := kchk_zero e3
      generalize lgs sp h 0 (fun _ => 0) (fun _ => 0) (fun _ => 0) (fun _ => 0) (fun _ => 0) FX FY T.length = D' at *
      by_cases h2 : 200000 < fen off D' T.length
      · refine go_no cl kd f t ks off sp h kw ceil climb desc slow fast A1 A2 A3 B n c1 m c2 nr c3 p d 12 T.length (nth T) FX FY W (by decide) (Lib.hid WK) (Lib.hid EX) (Lib.hid fun w1 v hb hv => (P w1 v hb hv).mono fun e w' ⟨hh, hb'⟩ => ⟨?_, hb'⟩)
        rcases hh with ⟨h0, -⟩ | ⟨-, ⟨-, he⟩ | ⟨h0, -⟩⟩
        · exact absurd hE2 h0
        · exact he
        · omega
      · obtain ⟨o1, o2, o3⟩ := ok_st (off := off) (h := h) (climb := climb) (desc := desc) (D := D') (X := FX) (Y := FY) hn.1 hg (du_ge (by omega) (by omega)) (du_ge (by omega) (by omega)) _ (Nat.le_refl _)
        have htwo := o1.two
        obtain ⟨MM, hMM⟩ : ∃ MM, MM = stN off h climb desc D' FX FY T.length (stK off h climb desc D' T.length) := ⟨_, rfl⟩
        obtain ⟨GF, hGF⟩ : ∃ GF, GF = fin off h climb desc ceil (fen off D' T.length - off) (stF off h climb desc D' FX FY T.length (stK off h climb desc D' T.length)) := ⟨_, rfl⟩
        refine go_ok cl kd f t ks off sp h kw ceil climb desc slow fast A1 A2 A3 B n c1 m c2 nr c3 p d T.length MM (nth T) FX FY (fun k => GF k 0) (fun k => GF k 1) (fun k => GF k 2) (fun k => GF k 3) D W hd1 hd9 (Lib.hid WK) (Lib.hid EX) (Lib.hid fun w1 v hb hv => (P w1 v hb hv).mono fun e w' ⟨hh, hb'⟩ => ⟨?_, hb'⟩) (Lib.hid hrv') (Lib.hid fun w1 v hb hv => cl_of hd1 hd2 (rv_keep hb hrv') hv)
        rcases hh with ⟨h0, -⟩ | ⟨-, ⟨h0, -⟩ | ⟨-, v2, he, base, ho⟩⟩
        · exact absurd hE2 h0
        · omega
        · rw [← hMM, ← hGF] at ho
          exact ⟨v2, he, Top.pv_own ho (by omega)⟩
    · refine go_no cl kd f t ks off sp h kw ceil climb desc slow fast A1 A2 A3 B n c1 m c2 nr c3 p d _ T.length (nth T) FX FY W (by simpa using hE2) (Lib.hid WK) (Lib.hid EX) (Lib.hid fun w1 v hb hv => (P w1 v hb hv).mono fun e w' ⟨hh, hb'⟩ => ⟨?_, hb'⟩)
      rcases hh with ⟨-, he⟩ | ⟨h0, -⟩
      · exact he
      · exact absurd h0 hE2
  · have EX : ∀ w1, Below W.heap.size W w1 → Calls Tryz.prog 13 #[Plan.plan cl kd f t off sp h (.slice A3 nr c3), .agg #[.slice A1 n c1, .slice A2 m c2]] w1 fun e w' => e = .returned (.tuple #[.slice none 0 0, .int .i64 (rtE n N X Y m M l S cl kd f t off sp h nr RT)]) ∧ Below w1.heap.size w1 w' := fun w1 hb => (E w1 hb).mono fun e w' ⟨hp, hb'⟩ => by
      rcases hp with ⟨-, he⟩ | ⟨h0, -⟩
      · exact ⟨he, hb'⟩
      · exact absurd h0 hE
    refine go_bad cl kd f t ks off sp h kw ceil climb desc slow fast A1 A2 A3 B n c1 m c2 nr c3 p d _ (pthE 0 (fun _ => 0) (fun _ => 0) cl kd f t ks off sp h kw ceil climb desc slow fast nr RT 0 (fun _ => 0) (fun _ => 0) (fun _ => 0) (fun _ => 0) (fun _ => 0)) W (by simpa using hE) (Lib.hid WK) (Lib.hid EX) (Lib.hid fun w1 hb => (PTH w1 (.slice none 0 0) 0 (fun _ => ⟨#[]⟩) (fun _ => 0) (fun _ => 0) hb (Or.inl ⟨rfl, Or.inl rfl⟩)).mono fun e w' ⟨hh, hb'⟩ => ⟨?_, hb'⟩)
    rcases hh with ⟨-, he⟩ | ⟨h0, -⟩
    · exact he
    · have q := (fck_zero h0).1.1
      omega
-- FRAME --

set_option maxRecDepth 100000 in
theorem lifted (os : Os) (started : os.Started) (H : Type) (enc : TypeId × Value → H) :
    ReturnsInHanded {} Tryz.checked os 4 .any (fun w args => (Rows.topClosedSpec.pre enc Tryz.prog Tryz.f4 [] false w args ∧ laidMetH Tryz.prog Door.laid w) ∧ sizedMet enc Tryz.prog Tryz.f4 (OpenSpec.ofChange Rows.topClosedSpec) false w args) (Rows.topClosedSpec.post enc Tryz.prog Tryz.f4 false true false false) :=
  Frame.lifted_laid (C := Tryz.checked) 4 Tryz.f4 Tryz.own started (by kernel_rfl) Tryz.func4 Tryz.laidOut rfl (by kernel_rfl) 4 rfl Tryz.underlying4
      (fun ds h => by match ds, h with | [_, _, _, _], _ => rfl)
      (ChangeSpec.witness_at (enc := enc) (C := Tryz.checked) (os := os) (X := fun w _ => laidMetH Tryz.prog Door.laid w) false (Door.laidWorld os) #[.agg #[.string ⟨#[]⟩, .string ⟨#[]⟩, .string ⟨#[]⟩, .string ⟨#[]⟩, .int .i64 0, .int .i64 0, .int .i64 0, .slice none 0 0], .agg #[.slice none 0 0, .slice none 0 0], .agg #[.string ⟨#[]⟩, .int .i64 0, .int .i64 0, .int .i64 0, .int .i64 0, .int .i64 0, .int .i64 0], .slice none 0 0] 8 rfl (by kernel_rfl) (by kernel_rfl) (by kernel_rfl) (by kernel_rfl) (by kernel_rfl) (Door.laidWorld_met os _))
      (fun W base args ds ps hval0 hA _ hL => by
        have hval : ∀ (j : Nat) t v, Tryz.f4.params[j]? = some t → args[j]? = some v → Value.okWide Tryz.prog W .any base t v := hval0
        have hA' : DataW.TrodAll enc Tryz.prog W 0 (fun _ => true) true Tryz.f4.params.toList args.toList ds ps := hA
        clear hval0 hA
        have hA := hA'
        clear hA'
        rw [Tryz.params4] at hA hval
        obtain ⟨v0, vs0, d0, ds0, p0, q0, ea, rfl, rfl, tr0, rest0⟩ := trodAll_cons hA
        obtain ⟨v1, vs1, d1, ds1, p1, q1, rfl, rfl, rfl, tr1, rest1⟩ := trodAll_cons rest0
        obtain ⟨v2, vs2, d2, ds2, p2, q2, rfl, rfl, rfl, tr2, rest2⟩ := trodAll_cons rest1
        obtain ⟨v3, vs3, d3, ds3, p3, q3, rfl, rfl, rfl, tr3, rest3⟩ := trodAll_cons rest2
        obtain ⟨rfl, rfl, rfl⟩ := trodAll_nil rest3
        obtain rfl : args = #[v0, v1, v2, v3] := by cases args; simp_all
        clear ea
        obtain ⟨cs_p, e_p, hl_p, hc_p⟩ := Frame.arg_agg Tryz.underlying39 (k := 8) (ks := [.str, .str, .str, .str, .int, .int, .int, .sl [.str]]) (by kernel_rfl) (hval 0 _ v0 rfl rfl) tr0
        subst e_p
        obtain ⟨c_p_call, c_p_kind, c_p_from, c_p_to, c_p_off, c_p_speed, c_p_height, c_p_route, rfl⟩ : ∃ c_p_call c_p_kind c_p_from c_p_to c_p_off c_p_speed c_p_height c_p_route, cs_p = [c_p_call, c_p_kind, c_p_from, c_p_to, c_p_off, c_p_speed, c_p_height, c_p_route] := by match cs_p, hl_p with | [x0, x1, x2, x3, x4, x5, x6, x7], _ => exact ⟨x0, x1, x2, x3, x4, x5, x6, x7, rfl⟩
        have o_p_call : Frame.Okc W (.str) c_p_call := hc_p 0 (by decide) (by simp)
        obtain ⟨p_call, e_p_call, w_p_call⟩ := o_p_call.str_inv; subst e_p_call
        have o_p_kind : Frame.Okc W (.str) c_p_kind := hc_p 1 (by decide) (by simp)
        obtain ⟨p_kind, e_p_kind, w_p_kind⟩ := o_p_kind.str_inv; subst e_p_kind
        have o_p_from : Frame.Okc W (.str) c_p_from := hc_p 2 (by decide) (by simp)
        obtain ⟨p_from, e_p_from, w_p_from⟩ := o_p_from.str_inv; subst e_p_from
        have o_p_to : Frame.Okc W (.str) c_p_to := hc_p 3 (by decide) (by simp)
        obtain ⟨p_to, e_p_to, w_p_to⟩ := o_p_to.str_inv; subst e_p_to
        have o_p_off : Frame.Okc W (.int) c_p_off := hc_p 4 (by decide) (by simp)
        obtain ⟨p_off, e_p_off, w_p_off⟩ := o_p_off.int_inv; subst e_p_off
        have o_p_speed : Frame.Okc W (.int) c_p_speed := hc_p 5 (by decide) (by simp)
        obtain ⟨p_speed, e_p_speed, w_p_speed⟩ := o_p_speed.int_inv; subst e_p_speed
        have o_p_height : Frame.Okc W (.int) c_p_height := hc_p 6 (by decide) (by simp)
        obtain ⟨p_height, e_p_height, w_p_height⟩ := o_p_height.int_inv; subst e_p_height
        have o_p_route : Frame.Okc W (.sl [.str]) c_p_route := hc_p 7 (by decide) (by simp)
        obtain ⟨cs_c, e_c, hl_c, hc_c⟩ := Frame.arg_agg Tryz.underlying43 (k := 8) (ks := [.sl [.str, .int, .int], .sl [.str, .sl [.str]]]) (by kernel_rfl) (hval 1 _ v1 rfl rfl) tr1
        subst e_c
        obtain ⟨c_c_fixes, c_c_airways, rfl⟩ : ∃ c_c_fixes c_c_airways, cs_c = [c_c_fixes, c_c_airways] := by match cs_c, hl_c with | [x0, x1], _ => exact ⟨x0, x1, rfl⟩
        have o_c_fixes : Frame.Okc W (.sl [.str, .int, .int]) c_c_fixes := hc_c 0 (by decide) (by simp)
        have o_c_airways : Frame.Okc W (.sl [.str, .sl [.str]]) c_c_airways := hc_c 1 (by decide) (by simp)
        obtain ⟨cs_k, e_k, hl_k, hc_k⟩ := Frame.arg_agg Tryz.underlying45 (k := 8) (ks := [.str, .int, .int, .int, .int, .int, .int]) (by kernel_rfl) (hval 2 _ v2 rfl rfl) tr2
        subst e_k
        obtain ⟨c_k_name, c_k_wake, c_k_ceil, c_k_climb, c_k_desc, c_k_slow, c_k_fast, rfl⟩ : ∃ c_k_name c_k_wake c_k_ceil c_k_climb c_k_desc c_k_slow c_k_fast, cs_k = [c_k_name, c_k_wake, c_k_ceil, c_k_climb, c_k_desc, c_k_slow, c_k_fast] := by match cs_k, hl_k with | [x0, x1, x2, x3, x4, x5, x6], _ => exact ⟨x0, x1, x2, x3, x4, x5, x6, rfl⟩
        have o_k_name : Frame.Okc W (.str) c_k_name := hc_k 0 (by decide) (by simp)
        obtain ⟨k_name, e_k_name, w_k_name⟩ := o_k_name.str_inv; subst e_k_name
        have o_k_wake : Frame.Okc W (.int) c_k_wake := hc_k 1 (by decide) (by simp)
        obtain ⟨k_wake, e_k_wake, w_k_wake⟩ := o_k_wake.int_inv; subst e_k_wake
        have o_k_ceil : Frame.Okc W (.int) c_k_ceil := hc_k 2 (by decide) (by simp)
        obtain ⟨k_ceil, e_k_ceil, w_k_ceil⟩ := o_k_ceil.int_inv; subst e_k_ceil
        have o_k_climb : Frame.Okc W (.int) c_k_climb := hc_k 3 (by decide) (by simp)
        obtain ⟨k_climb, e_k_climb, w_k_climb⟩ := o_k_climb.int_inv; subst e_k_climb
        have o_k_desc : Frame.Okc W (.int) c_k_desc := hc_k 4 (by decide) (by simp)
        obtain ⟨k_desc, e_k_desc, w_k_desc⟩ := o_k_desc.int_inv; subst e_k_desc
        have o_k_slow : Frame.Okc W (.int) c_k_slow := hc_k 5 (by decide) (by simp)
        obtain ⟨k_slow, e_k_slow, w_k_slow⟩ := o_k_slow.int_inv; subst e_k_slow
        have o_k_fast : Frame.Okc W (.int) c_k_fast := hc_k 6 (by decide) (by simp)
        obtain ⟨k_fast, e_k_fast, w_k_fast⟩ := o_k_fast.int_inv; subst e_k_fast
        have sl_v : Frame.Okc W (.sl [.str, .sl [.int, .int], .int, .int, .sl [.int, .int]]) v3 := by obtain ⟨a, l, c, e⟩ := okWide_slice Tryz.underlying46 (hval 3 _ v3 rfl rfl); exact Frame.arg_cell (k := 8) (by kernel_rfl) (by have e2 : v3 = .slice a l c := e; rw [e2]; rfl) tr3
        exact walk p_call p_kind p_from p_to p_off p_speed p_height c_p_route c_c_fixes c_c_airways k_name k_wake k_ceil k_climb k_desc k_slow k_fast v3 W hL w_p_call w_p_kind w_p_from w_p_to w_p_off w_p_speed w_p_height o_p_route o_c_fixes o_c_airways w_k_name w_k_wake w_k_ceil w_k_climb w_k_desc w_k_slow w_k_fast sl_v)

/-- The statement. -/
theorem row_holds : Rows.TopClosedSaid :=
  OpenClaim.holds_of_wide 4 Tryz.f4 rfl rfl rfl rfl rfl rfl rfl ⟨rfl, rfl, rfl, rfl, rfl⟩ rfl rfl rfl rfl rfl (by kernel_rfl) Tryz.func4 (by kernel_rfl)
    (of_decide_eq_true (by kernel_rfl)) (by unfold Func.isWrapper; first | (rw [if_pos (by decide +kernel)]; kernel_rfl) | (rw [if_neg (by decide +kernel)]; exact ⟨rfl, rfl⟩))
    (fun os started H enc _ => lifted os started H enc)
/-- The tied card. -/
theorem proved : Rows.TopClosedCardSaid :=
  Claim7.holds_tied_plain_at .later [] [.data, .data, .data] true (true, "5d56dae4b2a688e5e654a1984c708b89ba408b22c31bf1e299093b9bc00c5a55") true
    row_holds (fun _ h => by cases h) (by kernel_rfl) (fun _ h => by cases h) topClosed_row_tie rfl ⟨rfl, rfl⟩ (by kernel_rfl) rfl
    (fun f fn hf hfn => by
      obtain rfl : f = 4 := Option.some.inj ((show Tryz.prog.funcNamed "skyway/skywaytop.TopClosed" = some 4 by kernel_rfl).symm.trans hf) |>.symm
      obtain rfl : fn = Tryz.f4 := (Option.some.inj (Tryz.func4.symm.trans hfn)).symm
      exact ⟨by kernel_rfl, fun j t ht => by
        rw [Tryz.params4] at ht
        have hall : ∀ t ∈ [39, 43, 45, 46], Tryz.prog.wantsStandIn t = false := by
          intro t ht
          simp only [List.mem_cons, List.not_mem_nil, or_false] at ht
          rcases ht with rfl | rfl | rfl | rfl <;> kernel_rfl
        exact hall t (List.mem_iff_getElem?.2 ⟨j, by simpa using ht⟩)⟩)
    (by kernel_rfl)
#print axioms proved
end TopClosed
end Go.Proofs.YteieagihdflapaaGreatDoor

