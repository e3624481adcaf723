/- wind.Leg: what it returns. -/
import Derived.Test.YtkapllakofndlaaDoorWindG2
import Derived.Test.YtkapllakofndlaaDoorToward
namespace Go.Proofs.YtkapllakofndlaaDoor
open Go.RowKit
namespace Wind
open Kit Ang Num Plane
/-- Two points, one behind the other. -/
abbrev Q4 (w : World) (b : Nat) (ax ay bx by' : Int) : Prop := w.cell? ⟨b, 0, none⟩ = some (.int .i64 ax) ∧ w.cell? ⟨b, 1, none⟩ = some (.int .i64 ay) ∧ w.cell? ⟨b, 2, none⟩ = some (.int .i64 bx) ∧ w.cell? ⟨b, 3, none⟩ = some (.int .i64 by')
theorem q4_keep {W w1 : World} (hb : Below W.heap.size W w1) {b : Nat} {ax ay bx by' : Int} (h : Q4 W b ax ay bx by') : Q4 w1 b ax ay bx by' := ⟨keep hb h.1, keep hb h.2.1, keep hb h.2.2.1, keep hb h.2.2.2⟩
theorem q4_new (w : World) (t : TypeId) (ax ay bx by' : Int) : Q4 (w.alloc (.cells #[.int .i64 ax, .int .i64 ay, .int .i64 bx, .int .i64 by'] t)) w.heap.size ax ay bx by' := ⟨by simp, by simp, by simp, by simp⟩
set_option maxRecDepth 100000 in
set_option maxHeartbeats 4000000 in
theorem leg_bad (A : Option Addr) (n c : Nat) (sp h ax ay bx by' : Int) (w : World)
    (E : Int) (C : Hid (WkC (.slice A n c) E w)) (_hE1 : (E == 0) = false) (hE2 : (E != 0) = true) :
    Calls Tryd.prog 23 #[.slice A n c, .int .i64 sp, .int .i64 h, .agg #[.int .i64 ax, .int .i64 ay], .agg #[.int .i64 bx, .int .i64 by']] w fun e w' => e = .returned (.tuple #[.int .i64 0, .int .i64 0, .int .i64 E]) ∧ Below w.heap.size w w' := by
  have HA := Lib.hid (p2_alloc (.cells #[.int .i64 bx, .int .i64 by'] 28) (p2_new w 28 ax ay))
  have HB := Lib.hid (p2_new1 w (.cells #[.int .i64 ax, .int .i64 ay] 28) 28 bx by')
  have W0 := Lib.hid (b_alloc (b_alloc (Below.refl w.heap.size w) (.cells #[.int .i64 ax, .int .i64 ay] 28)) (.cells #[.int .i64 bx, .int .i64 by'] 28))
  go_enter Tryd.func23, Tryd.ntmps23
  go_wp2_with fail
  (with_reducible refine (C.out _ W0.out).mono ?_); rintro e w1 ⟨rfl, hb⟩
  have W1 := Lib.hid (b_next W0.out hb); have A1 := Lib.hid (p2_keep hb HA.out); have B1 := Lib.hid (p2_keep hb HB.out); clear hb HA HB W0
  obtain ⟨⟨a0, a1⟩, b0, b1⟩ := And.intro A1.out B1.out
  clear A1 B1
  go_wp2_with fail
  refine bodyPost_ret (v := .tuple #[.int .i64 0, .int .i64 0, .int .i64 E]) (by simp [results, Tryd.results23, go_sem]) rfl ⟨rfl, ?_⟩
  exact W1.out
set_option maxRecDepth 100000 in
set_option maxHeartbeats 4000000 in
theorem leg_range (A : Option Addr) (n c : Nat) (sp h ax ay bx by' : Int) (w : World)
    (C : Hid (WkC (.slice A n c) 0 w)) (hr : (sp < 1 ∨ 400 < sp) ∨ h < 0 ∨ 60000 < h) :
    Calls Tryd.prog 23 #[.slice A n c, .int .i64 sp, .int .i64 h, .agg #[.int .i64 ax, .int .i64 ay], .agg #[.int .i64 bx, .int .i64 by']] w fun e w' => e = .returned (.tuple #[.int .i64 0, .int .i64 0, .int .i64 4]) ∧ Below w.heap.size w w' := by
  have HA := Lib.hid (p2_alloc (.cells #[.int .i64 bx, .int .i64 by'] 28) (p2_new w 28 ax ay))
  have HB := Lib.hid (p2_new1 w (.cells #[.int .i64 ax, .int .i64 ay] 28) 28 bx by')
  have W0 := Lib.hid (b_alloc (b_alloc (Below.refl w.heap.size w) (.cells #[.int .i64 ax, .int .i64 ay] 28)) (.cells #[.int .i64 bx, .int .i64 by'] 28))
  go_enter Tryd.func23, Tryd.ntmps23
  go_wp2_with fail
  (with_reducible refine (C.out _ W0.out).mono ?_); rintro e w1 ⟨rfl, hb⟩
  have W1 := Lib.hid (b_next W0.out hb); have A1 := Lib.hid (p2_keep hb HA.out); have B1 := Lib.hid (p2_keep hb HB.out); clear hb HA HB W0
  obtain ⟨⟨a0, a1⟩, b0, b1⟩ := And.intro A1.out B1.out
  go_wp2_with fail
  all_goals first
    | (exfalso; omega)
    | (refine bodyPost_ret (v := .tuple #[.int .i64 0, .int .i64 0, .int .i64 4]) (by simp [results, Tryd.results23, go_sem]) rfl ⟨rfl, ?_⟩
       exact W1.out)
set_option maxRecDepth 100000 in
set_option maxHeartbeats 4000000 in
theorem leg_a (A : Option Addr) (n c : Nat) (sp h ax ay bx by' : Int) (w : World)
    (C : Hid (WkC (.slice A n c) 0 w)) (hs : 1 ≤ sp ∧ sp ≤ 400) (hh : 0 ≤ h ∧ h ≤ 60000) (KA : Hid (Chk ax ay 4)) :
    Calls Tryd.prog 23 #[.slice A n c, .int .i64 sp, .int .i64 h, .agg #[.int .i64 ax, .int .i64 ay], .agg #[.int .i64 bx, .int .i64 by']] w fun e w' => e = .returned (.tuple #[.int .i64 0, .int .i64 0, .int .i64 4]) ∧ Below w.heap.size w w' := by
  have g1 : ¬ sp < 1 := by omega
  have g2 : ¬ 400 < sp := by omega
  have g3 : ¬ h < 0 := by omega
  have g4 : ¬ 60000 < h := by omega
  have HA := Lib.hid (p2_alloc (.cells #[.int .i64 bx, .int .i64 by'] 28) (p2_new w 28 ax ay))
  have HB := Lib.hid (p2_new1 w (.cells #[.int .i64 ax, .int .i64 ay] 28) 28 bx by')
  have W0 := Lib.hid (b_alloc (b_alloc (Below.refl w.heap.size w) (.cells #[.int .i64 ax, .int .i64 ay] 28)) (.cells #[.int .i64 bx, .int .i64 by'] 28))
  go_enter Tryd.func23, Tryd.ntmps23
  go_wp2_with fail
  (with_reducible refine (C.out _ W0.out).mono ?_); rintro e w1 ⟨rfl, hb⟩
  have W1 := Lib.hid (b_next W0.out hb); have A1 := Lib.hid (p2_keep hb HA.out); have B1 := Lib.hid (p2_keep hb HB.out); clear hb HA HB W0
  obtain ⟨⟨a0, a1⟩, b0, b1⟩ := And.intro A1.out B1.out
  have W2 := Lib.hid (b_alloc W1.out (.cells #[.int .i64 ax, .int .i64 ay, .int .i64 bx, .int .i64 by'] 28))
  have A2 := Lib.hid (p2_alloc (.cells #[.int .i64 ax, .int .i64 ay, .int .i64 bx, .int .i64 by'] 28) A1.out); have B2 := Lib.hid (p2_alloc (.cells #[.int .i64 ax, .int .i64 ay, .int .i64 bx, .int .i64 by'] 28) B1.out)
  have L2 := Lib.hid (q4_new w1 28 ax ay bx by')
  go_wp2_with fail
  go_loopw [51] (fun s wr => (s = .int .i64 0) ∧ Q4 wr w1.heap.size ax ay bx by' ∧ P2 wr w.heap.size ax ay ∧ P2 wr (w.heap.size + 1) bx by' ∧ Below w.heap.size w wr) (fun s _ => 0 - (intOf s).toNat)
  case atStart => exact ⟨rfl, L2.out, A2.out, B2.out, W2.out⟩
  case round =>
    obtain ⟨rfl, ⟨q0, q1, q2, q3⟩, ⟨a0, a1⟩, ⟨b0, b1⟩, hbl⟩ := hrel
    have n1 := Lib.hid hbl; have n2 := Lib.hid (And.intro (And.intro q0 (And.intro q1 (And.intro q2 q3))) (And.intro (And.intro a0 a1) (And.intro b0 b1)))
    clear hbl
    go_wp2_with fail
    (with_reducible refine (KA.out _).mono ?_); rintro e w3 ⟨rfl, hb⟩
    have hb2 := b_alloc (Below.refl _ _) (.cells #[.int .i64 ax, .int .i64 ay] 28) |>.trans (hb.mono (by simp))
    have n3 := Lib.hid (b_next n1.out hb2); clear hb hb2
    go_wp2_with fail
    refine bodyPost_ret (v := .tuple #[.int .i64 0, .int .i64 0, .int .i64 4]) (by simp [results, Tryd.results23, go_sem]) rfl ⟨rfl, ?_⟩
    exact n3.out
set_option maxRecDepth 100000 in
set_option maxHeartbeats 4000000 in
theorem leg_b (A : Option Addr) (n c : Nat) (sp h ax ay bx by' : Int) (w : World)
    (C : Hid (WkC (.slice A n c) 0 w)) (hs : 1 ≤ sp ∧ sp ≤ 400) (hh : 0 ≤ h ∧ h ≤ 60000) (KA : Hid (Chk ax ay 0)) (KB : Hid (Chk bx by' 4)) :
    Calls Tryd.prog 23 #[.slice A n c, .int .i64 sp, .int .i64 h, .agg #[.int .i64 ax, .int .i64 ay], .agg #[.int .i64 bx, .int .i64 by']] w fun e w' => e = .returned (.tuple #[.int .i64 0, .int .i64 0, .int .i64 4]) ∧ Below w.heap.size w w' := by
  have g1 : ¬ sp < 1 := by omega
  have g2 : ¬ 400 < sp := by omega
  have g3 : ¬ h < 0 := by omega
  have g4 : ¬ 60000 < h := by omega
  have HA := Lib.hid (p2_alloc (.cells #[.int .i64 bx, .int .i64 by'] 28) (p2_new w 28 ax ay))
  have HB := Lib.hid (p2_new1 w (.cells #[.int .i64 ax, .int .i64 ay] 28) 28 bx by')
  have W0 := Lib.hid (b_alloc (b_alloc (Below.refl w.heap.size w) (.cells #[.int .i64 ax, .int .i64 ay] 28)) (.cells #[.int .i64 bx, .int .i64 by'] 28))
  go_enter Tryd.func23, Tryd.ntmps23
  go_wp2_with fail
  (with_reducible refine (C.out _ W0.out).mono ?_); rintro e w1 ⟨rfl, hb⟩
  have W1 := Lib.hid (b_next W0.out hb); have A1 := Lib.hid (p2_keep hb HA.out); have B1 := Lib.hid (p2_keep hb HB.out); clear hb HA HB W0
  obtain ⟨⟨a0, a1⟩, b0, b1⟩ := And.intro A1.out B1.out
  have W2 := Lib.hid (b_alloc W1.out (.cells #[.int .i64 ax, .int .i64 ay, .int .i64 bx, .int .i64 by'] 28))
  have A2 := Lib.hid (p2_alloc (.cells #[.int .i64 ax, .int .i64 ay, .int .i64 bx, .int .i64 by'] 28) A1.out); have B2 := Lib.hid (p2_alloc (.cells #[.int .i64 ax, .int .i64 ay, .int .i64 bx, .int .i64 by'] 28) B1.out)
  have L2 := Lib.hid (q4_new w1 28 ax ay bx by')
  go_wp2_with fail
  go_loopw [51] (fun s wr => (s = .int .i64 0 ∨ s = .int .i64 1) ∧ Q4 wr w1.heap.size ax ay bx by' ∧ P2 wr w.heap.size ax ay ∧ P2 wr (w.heap.size + 1) bx by' ∧ Below w.heap.size w wr) (fun s _ => 1 - (intOf s).toNat)
  case atStart => exact ⟨Or.inl rfl, L2.out, A2.out, B2.out, W2.out⟩
  case round =>
    obtain ⟨rfl | rfl, ⟨q0, q1, q2, q3⟩, ⟨a0, a1⟩, ⟨b0, b1⟩, hbl⟩ := hrel
    · have n1 := Lib.hid hbl; have n2 := Lib.hid (And.intro (And.intro q0 (And.intro q1 (And.intro q2 q3))) (And.intro (And.intro a0 a1) (And.intro b0 b1)))
      clear hbl
      go_wp2_with fail
      (with_reducible refine (KA.out _).mono ?_); rintro e w3 ⟨rfl, hb⟩
      have hb2 := b_alloc (Below.refl _ _) (.cells #[.int .i64 ax, .int .i64 ay] 28) |>.trans (hb.mono (by simp))
      have n3 := Lib.hid (And.intro (q4_keep hb2 n2.out.1) (And.intro (p2_keep hb2 n2.out.2.1) (And.intro (p2_keep hb2 n2.out.2.2) (b_next n1.out hb2)))); clear hb hb2
      clear q0 q1 q2 q3 a0 a1 b0 b1
      go_wp2_with fail
      go_roundw
      case rel => exact ⟨Or.inr rfl, n3.out⟩
      case measure => simp [intOf]
    · have n1 := Lib.hid hbl; have n2 := Lib.hid (And.intro (And.intro q0 (And.intro q1 (And.intro q2 q3))) (And.intro (And.intro a0 a1) (And.intro b0 b1)))
      clear hbl
      go_wp2_with fail
      (with_reducible refine (KB.out _).mono ?_); rintro e w3 ⟨rfl, hb⟩
      have hb2 := b_alloc (Below.refl _ _) (.cells #[.int .i64 bx, .int .i64 by'] 28) |>.trans (hb.mono (by simp))
      have n3 := Lib.hid (b_next n1.out hb2); clear hb hb2
      go_wp2_with fail
      refine bodyPost_ret (v := .tuple #[.int .i64 0, .int .i64 0, .int .i64 4]) (by simp [results, Tryd.results23, go_sem]) rfl ⟨rfl, ?_⟩
      exact n3.out
set_option maxRecDepth 100000 in
set_option maxHeartbeats 4000000 in
theorem leg_same (A : Option Addr) (n c : Nat) (sp h ax ay bx by' : Int) (w : World)
    (C : Hid (WkC (.slice A n c) 0 w)) (hs : 1 ≤ sp ∧ sp ≤ 400) (hh : 0 ≤ h ∧ h ≤ 60000) (KA : Hid (Chk ax ay 0)) (KB : Hid (Chk bx by' 0)) (hx : bx = ax) (hy : by' = ay) :
    Calls Tryd.prog 23 #[.slice A n c, .int .i64 sp, .int .i64 h, .agg #[.int .i64 ax, .int .i64 ay], .agg #[.int .i64 bx, .int .i64 by']] w fun e w' => e = .returned (.tuple #[.int .i64 0, .int .i64 0, .int .i64 0]) ∧ Below w.heap.size w w' := by
  subst hx hy
  have g1 : ¬ sp < 1 := by omega
  have g2 : ¬ 400 < sp := by omega
  have g3 : ¬ h < 0 := by omega
  have g4 : ¬ 60000 < h := by omega
  have HA := Lib.hid (p2_alloc (.cells #[.int .i64 bx, .int .i64 by'] 28) (p2_new w 28 bx by'))
  have HB := Lib.hid (p2_new1 w (.cells #[.int .i64 bx, .int .i64 by'] 28) 28 bx by')
  have W0 := Lib.hid (b_alloc (b_alloc (Below.refl w.heap.size w) (.cells #[.int .i64 bx, .int .i64 by'] 28)) (.cells #[.int .i64 bx, .int .i64 by'] 28))
  go_enter Tryd.func23, Tryd.ntmps23
  go_wp2_with fail
  (with_reducible refine (C.out _ W0.out).mono ?_); rintro e w1 ⟨rfl, hb⟩
  have W1 := Lib.hid (b_next W0.out hb); have A1 := Lib.hid (p2_keep hb HA.out); have B1 := Lib.hid (p2_keep hb HB.out); clear hb HA HB W0
  obtain ⟨⟨a0, a1⟩, b0, b1⟩ := And.intro A1.out B1.out
  have W2 := Lib.hid (b_alloc W1.out (.cells #[.int .i64 bx, .int .i64 by', .int .i64 bx, .int .i64 by'] 28))
  have A2 := Lib.hid (p2_alloc (.cells #[.int .i64 bx, .int .i64 by', .int .i64 bx, .int .i64 by'] 28) A1.out); have B2 := Lib.hid (p2_alloc (.cells #[.int .i64 bx, .int .i64 by', .int .i64 bx, .int .i64 by'] 28) B1.out)
  have L2 := Lib.hid (q4_new w1 28 bx by' bx by')
  go_wp2_with fail
  go_loopw [51] (fun s wr => (s = .int .i64 0 ∨ s = .int .i64 1 ∨ s = .int .i64 2) ∧ Q4 wr w1.heap.size bx by' bx by' ∧ P2 wr w.heap.size bx by' ∧ P2 wr (w.heap.size + 1) bx by' ∧ Below w.heap.size w wr) (fun s _ => 2 - (intOf s).toNat)
  case atStart => exact ⟨Or.inl rfl, L2.out, A2.out, B2.out, W2.out⟩
  case round =>
    obtain ⟨rfl | rfl | rfl, ⟨q0, q1, q2, q3⟩, ⟨a0, a1⟩, ⟨b0, b1⟩, hbl⟩ := hrel
    · have n1 := Lib.hid hbl; have n2 := Lib.hid (And.intro (And.intro q0 (And.intro q1 (And.intro q2 q3))) (And.intro (And.intro a0 a1) (And.intro b0 b1)))
      clear hbl
      go_wp2_with fail
      (with_reducible refine (KA.out _).mono ?_); rintro e w3 ⟨rfl, hb⟩
      have hb2 := b_alloc (Below.refl _ _) (.cells #[.int .i64 bx, .int .i64 by'] 28) |>.trans (hb.mono (by simp))
      have n3 := Lib.hid (And.intro (q4_keep hb2 n2.out.1) (And.intro (p2_keep hb2 n2.out.2.1) (And.intro (p2_keep hb2 n2.out.2.2) (b_next n1.out hb2)))); clear hb hb2
      clear q0 q1 q2 q3 a0 a1 b0 b1
      go_wp2_with fail
      go_roundw
      case rel => exact ⟨Or.inr (Or.inl rfl), n3.out⟩
      case measure => simp [intOf]
    · have n1 := Lib.hid hbl; have n2 := Lib.hid (And.intro (And.intro q0 (And.intro q1 (And.intro q2 q3))) (And.intro (And.intro a0 a1) (And.intro b0 b1)))
      clear hbl
      go_wp2_with fail
      (with_reducible refine (KB.out _).mono ?_); rintro e w3 ⟨rfl, hb⟩
      have hb2 := b_alloc (Below.refl _ _) (.cells #[.int .i64 bx, .int .i64 by'] 28) |>.trans (hb.mono (by simp))
      have n3 := Lib.hid (And.intro (q4_keep hb2 n2.out.1) (And.intro (p2_keep hb2 n2.out.2.1) (And.intro (p2_keep hb2 n2.out.2.2) (b_next n1.out hb2)))); clear hb hb2
      clear q0 q1 q2 q3 a0 a1 b0 b1
      go_wp2_with fail
      go_roundw
      case rel => exact ⟨Or.inr (Or.inr rfl), n3.out⟩
      case measure => simp [intOf]
    · have n1 := Lib.hid hbl; clear hbl q0 q1 q2 q3
      go_wp2_with fail
      refine bodyPost_ret (v := .tuple #[.int .i64 0, .int .i64 0, .int .i64 0]) (by simp [results, Tryd.results23, go_sem]) rfl ⟨rfl, ?_⟩
      exact n1.out
set_option maxRecDepth 100000 in
set_option maxHeartbeats 4000000 in
theorem leg_okx (A : Option Addr) (n c : Nat) (sp h ax ay bx by' : Int) (w : World)
    (l' h' x' y' e' dx dy r lo hi near far D : Int) (C : Hid (WkC (.slice A n c) 0 w)) (hs : 1 ≤ sp ∧ sp ≤ 400) (hh : 0 ≤ h ∧ h ≤ 60000) (KA : Hid (Chk ax ay 0)) (KB : Hid (Chk bx by' 0)) (hne : ¬ ax = bx)
    (SB : Hid (∀ w1, Calls Tryd.prog 44 #[.agg #[.int .i64 bx, .int .i64 by'], .agg #[.int .i64 ax, .int .i64 ay]] w1 fun e w' => e = .returned (.agg #[.int .i64 dx, .int .i64 dy]) ∧ Below w1.heap.size w1 w'))
    (OF : Hid (∀ w1, Below w.heap.size w w1 → Calls Tryd.prog 18 #[.agg #[.int .i64 dx, .int .i64 dy]] w1 fun e w' => e = .returned (.tuple #[.int .i64 r, .int .i64 0]) ∧ Below w1.heap.size w1 w'))
    (AT : Hid (∀ w1, Below w.heap.size w w1 → Calls Tryd.prog 24 #[.slice A n c, .int .i64 h] w1 fun e w' => e = .returned (.tuple #[band l' h' x' y' e', .int .i64 0]) ∧ Below w1.heap.size w1 w'))
    (GR : Hid (∀ w1, Below w.heap.size w w1 → Calls Tryd.prog 22 #[.int .i64 sp, .int .i64 r, band l' h' x' y' e'] w1 fun e w' => e = .returned (.tuple #[.int .i64 lo, .int .i64 hi, .int .i64 0]) ∧ Below w1.heap.size w1 w'))
    (DS : Hid (∀ w1, Calls Tryd.prog 20 #[.agg #[.int .i64 ax, .int .i64 ay], .agg #[.int .i64 bx, .int .i64 by']] w1 fun e w' => e = .returned (.tuple #[.int .i64 near, .int .i64 far]) ∧ Below w1.heap.size w1 w'))
    (DU : Hid (∀ w1, Calls Tryd.prog 42 #[.int .i64 far, .int .i64 lo] w1 fun e w' => e = .returned (.tuple #[.int .i64 D, .int .i64 0]) ∧ w1 = w'))
    (hn : 0 ≤ near ∧ near ≤ 9223372036854775807) (hhi : 1 ≤ hi ∧ hi ≤ 9223372036854775807) :
    Calls Tryd.prog 23 #[.slice A n c, .int .i64 sp, .int .i64 h, .agg #[.int .i64 ax, .int .i64 ay], .agg #[.int .i64 bx, .int .i64 by']] w fun e w' => e = .returned (.tuple #[.int .i64 (near / hi), .int .i64 D, .int .i64 0]) ∧ Below w.heap.size w w' := by
  have HN := Lib.hid hne; clear hne
  have g1 : ¬ sp < 1 := by omega
  have g2 : ¬ 400 < sp := by omega
  have g3 : ¬ h < 0 := by omega
  have g4 : ¬ 60000 < h := by omega
  have HA := Lib.hid (p2_alloc (.cells #[.int .i64 bx, .int .i64 by'] 28) (p2_new w 28 ax ay))
  have HB := Lib.hid (p2_new1 w (.cells #[.int .i64 ax, .int .i64 ay] 28) 28 bx by')
  have W0 := Lib.hid (b_alloc (b_alloc (Below.refl w.heap.size w) (.cells #[.int .i64 ax, .int .i64 ay] 28)) (.cells #[.int .i64 bx, .int .i64 by'] 28))
  go_enter Tryd.func23, Tryd.ntmps23
  go_wp2_with fail
  (with_reducible refine (C.out _ W0.out).mono ?_); rintro e w1 ⟨rfl, hb⟩
  have W1 := Lib.hid (b_next W0.out hb); have A1 := Lib.hid (p2_keep hb HA.out); have B1 := Lib.hid (p2_keep hb HB.out); clear hb HA HB W0
  obtain ⟨⟨a0, a1⟩, b0, b1⟩ := And.intro A1.out B1.out
  have W2 := Lib.hid (b_alloc W1.out (.cells #[.int .i64 ax, .int .i64 ay, .int .i64 bx, .int .i64 by'] 28))
  have A2 := Lib.hid (p2_alloc (.cells #[.int .i64 ax, .int .i64 ay, .int .i64 bx, .int .i64 by'] 28) A1.out); have B2 := Lib.hid (p2_alloc (.cells #[.int .i64 ax, .int .i64 ay, .int .i64 bx, .int .i64 by'] 28) B1.out)
  have L2 := Lib.hid (q4_new w1 28 ax ay bx by')
  go_wp2_with fail
  go_loopw [51] (fun s wr => (s = .int .i64 0 ∨ s = .int .i64 1 ∨ s = .int .i64 2) ∧ Q4 wr w1.heap.size ax ay bx by' ∧ P2 wr w.heap.size ax ay ∧ P2 wr (w.heap.size + 1) bx by' ∧ Below w.heap.size w wr) (fun s _ => 2 - (intOf s).toNat)
  case atStart => exact ⟨Or.inl rfl, L2.out, A2.out, B2.out, W2.out⟩
  case round =>
    obtain ⟨rfl | rfl | rfl, ⟨q0, q1, q2, q3⟩, ⟨a0, a1⟩, ⟨b0, b1⟩, hbl⟩ := hrel
    · have n1 := Lib.hid hbl; have n2 := Lib.hid (And.intro (And.intro q0 (And.intro q1 (And.intro q2 q3))) (And.intro (And.intro a0 a1) (And.intro b0 b1)))
      clear hbl
      go_wp2_with fail
      (with_reducible refine (KA.out _).mono ?_); rintro e w3 ⟨rfl, hb⟩
      have hb2 := b_alloc (Below.refl _ _) (.cells #[.int .i64 ax, .int .i64 ay] 28) |>.trans (hb.mono (by simp))
      have n3 := Lib.hid (And.intro (q4_keep hb2 n2.out.1) (And.intro (p2_keep hb2 n2.out.2.1) (And.intro (p2_keep hb2 n2.out.2.2) (b_next n1.out hb2)))); clear hb hb2
      clear q0 q1 q2 q3 a0 a1 b0 b1
      go_wp2_with fail
      go_roundw
      case rel => exact ⟨Or.inr (Or.inl rfl), n3.out⟩
      case measure => simp [intOf]
    · have n1 := Lib.hid hbl; have n2 := Lib.hid (And.intro (And.intro q0 (And.intro q1 (And.intro q2 q3))) (And.intro (And.intro a0 a1) (And.intro b0 b1)))
      clear hbl
      go_wp2_with fail
      (with_reducible refine (KB.out _).mono ?_); rintro e w3 ⟨rfl, hb⟩
      have hb2 := b_alloc (Below.refl _ _) (.cells #[.int .i64 bx, .int .i64 by'] 28) |>.trans (hb.mono (by simp))
      have n3 := Lib.hid (And.intro (q4_keep hb2 n2.out.1) (And.intro (p2_keep hb2 n2.out.2.1) (And.intro (p2_keep hb2 n2.out.2.2) (b_next n1.out hb2)))); clear hb hb2
      clear q0 q1 q2 q3 a0 a1 b0 b1
      go_wp2_with fail
      go_roundw
      case rel => exact ⟨Or.inr (Or.inr rfl), n3.out⟩
      case measure => simp [intOf]
    · have n1 := Lib.hid hbl; have n2 := Lib.hid (And.intro (And.intro a0 a1) (And.intro b0 b1)); clear hbl q0 q1 q2 q3
      have hne := HN.out
      go_wp2_with fail
      (with_reducible refine (SB.out _).mono ?_); rintro e w3 ⟨rfl, hb⟩
      have n3 := Lib.hid (b_next n1.out hb); have m3 := Lib.hid (And.intro (p2_keep hb n2.out.1) (p2_keep hb n2.out.2)); clear hb a0 a1 b0 b1 hne
      obtain ⟨⟨a0, a1⟩, b0, b1⟩ := m3.out
      go_wp2_with fail
      (with_reducible refine (OF.out _ n3.out).mono ?_); rintro e w4 ⟨rfl, hb⟩
      have n4 := Lib.hid (b_next n3.out hb); have m4 := Lib.hid (And.intro (p2_keep hb m3.out.1) (p2_keep hb m3.out.2)); clear hb a0 a1 b0 b1
      obtain ⟨⟨a0, a1⟩, b0, b1⟩ := m4.out
      go_wp2_with fail
      (with_reducible refine (AT.out _ n4.out).mono ?_); rintro e w5 ⟨rfl, hb⟩
      have n5 := Lib.hid (b_next n4.out hb); have m5 := Lib.hid (And.intro (p2_keep hb m4.out.1) (p2_keep hb m4.out.2)); clear hb a0 a1 b0 b1
      obtain ⟨w6, hw6⟩ : ∃ w6, w6 = w5.alloc (.cells #[.int .i64 l', .int .i64 h', .int .i64 x', .int .i64 y', .int .i64 e'] 38) := ⟨_, rfl⟩
      have n6 : Hid (Below w.heap.size w w6) := Lib.hid (by rw [hw6]; exact b_alloc n5.out _)
      have m6 : Hid (P2 w6 w.heap.size ax ay ∧ P2 w6 (w.heap.size + 1) bx by') := Lib.hid (by rw [hw6]; exact ⟨p2_alloc _ m5.out.1, p2_alloc _ m5.out.2⟩)
      have H6 := Lib.hid hw6.symm; clear hw6
      obtain ⟨⟨a0, a1⟩, b0, b1⟩ := m5.out
      go_wp2_with fail
      rw [H6.out]
      (with_reducible refine (GR.out _ n6.out).mono ?_); rintro e w7 ⟨rfl, hb⟩
      have n7 := Lib.hid (b_next n6.out hb); have m7 := Lib.hid (And.intro (p2_keep hb m6.out.1) (p2_keep hb m6.out.2)); clear hb a0 a1 b0 b1 H6
      obtain ⟨⟨a0, a1⟩, b0, b1⟩ := m7.out
      go_wp2_with fail
      (with_reducible refine (DS.out _).mono ?_); rintro e w8 ⟨rfl, hb⟩
      have n8 := Lib.hid (b_next n7.out hb); clear hb a0 a1 b0 b1
      go_wp2_with fail
      (with_reducible refine (DU.out _).mono ?_); rintro e w9 ⟨rfl, rfl⟩
      go_wp2_with fail
      refine bodyPost_ret (v := .tuple #[.int .i64 (near / hi), .int .i64 D, .int .i64 0]) (by simp [results, Tryd.results23, go_sem]) rfl ⟨rfl, ?_⟩
      exact n8.out
set_option maxRecDepth 100000 in
set_option maxHeartbeats 4000000 in
theorem leg_oky (A : Option Addr) (n c : Nat) (sp h ax ay by' : Int) (w : World)
    (l' h' x' y' e' dx dy r lo hi near far D : Int) (C : Hid (WkC (.slice A n c) 0 w)) (hs : 1 ≤ sp ∧ sp ≤ 400) (hh : 0 ≤ h ∧ h ≤ 60000) (KA : Hid (Chk ax ay 0)) (KB : Hid (Chk ax by' 0)) (hne : ¬ ay = by')
    (SB : Hid (∀ w1, Calls Tryd.prog 44 #[.agg #[.int .i64 ax, .int .i64 by'], .agg #[.int .i64 ax, .int .i64 ay]] w1 fun e w' => e = .returned (.agg #[.int .i64 dx, .int .i64 dy]) ∧ Below w1.heap.size w1 w'))
    (OF : Hid (∀ w1, Below w.heap.size w w1 → Calls Tryd.prog 18 #[.agg #[.int .i64 dx, .int .i64 dy]] w1 fun e w' => e = .returned (.tuple #[.int .i64 r, .int .i64 0]) ∧ Below w1.heap.size w1 w'))
    (AT : Hid (∀ w1, Below w.heap.size w w1 → Calls Tryd.prog 24 #[.slice A n c, .int .i64 h] w1 fun e w' => e = .returned (.tuple #[band l' h' x' y' e', .int .i64 0]) ∧ Below w1.heap.size w1 w'))
    (GR : Hid (∀ w1, Below w.heap.size w w1 → Calls Tryd.prog 22 #[.int .i64 sp, .int .i64 r, band l' h' x' y' e'] w1 fun e w' => e = .returned (.tuple #[.int .i64 lo, .int .i64 hi, .int .i64 0]) ∧ Below w1.heap.size w1 w'))
    (DS : Hid (∀ w1, Calls Tryd.prog 20 #[.agg #[.int .i64 ax, .int .i64 ay], .agg #[.int .i64 ax, .int .i64 by']] w1 fun e w' => e = .returned (.tuple #[.int .i64 near, .int .i64 far]) ∧ Below w1.heap.size w1 w'))
    (DU : Hid (∀ w1, Calls Tryd.prog 42 #[.int .i64 far, .int .i64 lo] w1 fun e w' => e = .returned (.tuple #[.int .i64 D, .int .i64 0]) ∧ w1 = w'))
    (hn : 0 ≤ near ∧ near ≤ 9223372036854775807) (hhi : 1 ≤ hi ∧ hi ≤ 9223372036854775807) :
    Calls Tryd.prog 23 #[.slice A n c, .int .i64 sp, .int .i64 h, .agg #[.int .i64 ax, .int .i64 ay], .agg #[.int .i64 ax, .int .i64 by']] w fun e w' => e = .returned (.tuple #[.int .i64 (near / hi), .int .i64 D, .int .i64 0]) ∧ Below w.heap.size w w' := by
  have HN := Lib.hid hne; clear hne
  have g1 : ¬ sp < 1 := by omega
  have g2 : ¬ 400 < sp := by omega
  have g3 : ¬ h < 0 := by omega
  have g4 : ¬ 60000 < h := by omega
  have HA := Lib.hid (p2_alloc (.cells #[.int .i64 ax, .int .i64 by'] 28) (p2_new w 28 ax ay))
  have HB := Lib.hid (p2_new1 w (.cells #[.int .i64 ax, .int .i64 ay] 28) 28 ax by')
  have W0 := Lib.hid (b_alloc (b_alloc (Below.refl w.heap.size w) (.cells #[.int .i64 ax, .int .i64 ay] 28)) (.cells #[.int .i64 ax, .int .i64 by'] 28))
  go_enter Tryd.func23, Tryd.ntmps23
  go_wp2_with fail
  (with_reducible refine (C.out _ W0.out).mono ?_); rintro e w1 ⟨rfl, hb⟩
  have W1 := Lib.hid (b_next W0.out hb); have A1 := Lib.hid (p2_keep hb HA.out); have B1 := Lib.hid (p2_keep hb HB.out); clear hb HA HB W0
  obtain ⟨⟨a0, a1⟩, b0, b1⟩ := And.intro A1.out B1.out
  have W2 := Lib.hid (b_alloc W1.out (.cells #[.int .i64 ax, .int .i64 ay, .int .i64 ax, .int .i64 by'] 28))
  have A2 := Lib.hid (p2_alloc (.cells #[.int .i64 ax, .int .i64 ay, .int .i64 ax, .int .i64 by'] 28) A1.out); have B2 := Lib.hid (p2_alloc (.cells #[.int .i64 ax, .int .i64 ay, .int .i64 ax, .int .i64 by'] 28) B1.out)
  have L2 := Lib.hid (q4_new w1 28 ax ay ax by')
  go_wp2_with fail
  go_loopw [51] (fun s wr => (s = .int .i64 0 ∨ s = .int .i64 1 ∨ s = .int .i64 2) ∧ Q4 wr w1.heap.size ax ay ax by' ∧ P2 wr w.heap.size ax ay ∧ P2 wr (w.heap.size + 1) ax by' ∧ Below w.heap.size w wr) (fun s _ => 2 - (intOf s).toNat)
  case atStart => exact ⟨Or.inl rfl, L2.out, A2.out, B2.out, W2.out⟩
  case round =>
    obtain ⟨rfl | rfl | rfl, ⟨q0, q1, q2, q3⟩, ⟨a0, a1⟩, ⟨b0, b1⟩, hbl⟩ := hrel
    · have n1 := Lib.hid hbl; have n2 := Lib.hid (And.intro (And.intro q0 (And.intro q1 (And.intro q2 q3))) (And.intro (And.intro a0 a1) (And.intro b0 b1)))
      clear hbl
      go_wp2_with fail
      (with_reducible refine (KA.out _).mono ?_); rintro e w3 ⟨rfl, hb⟩
      have hb2 := b_alloc (Below.refl _ _) (.cells #[.int .i64 ax, .int .i64 ay] 28) |>.trans (hb.mono (by simp))
      have n3 := Lib.hid (And.intro (q4_keep hb2 n2.out.1) (And.intro (p2_keep hb2 n2.out.2.1) (And.intro (p2_keep hb2 n2.out.2.2) (b_next n1.out hb2)))); clear hb hb2
      clear q0 q1 q2 q3 a0 a1 b0 b1
      go_wp2_with fail
      go_roundw
      case rel => exact ⟨Or.inr (Or.inl rfl), n3.out⟩
      case measure => simp [intOf]
    · have n1 := Lib.hid hbl; have n2 := Lib.hid (And.intro (And.intro q0 (And.intro q1 (And.intro q2 q3))) (And.intro (And.intro a0 a1) (And.intro b0 b1)))
      clear hbl
      go_wp2_with fail
      (with_reducible refine (KB.out _).mono ?_); rintro e w3 ⟨rfl, hb⟩
      have hb2 := b_alloc (Below.refl _ _) (.cells #[.int .i64 ax, .int .i64 by'] 28) |>.trans (hb.mono (by simp))
      have n3 := Lib.hid (And.intro (q4_keep hb2 n2.out.1) (And.intro (p2_keep hb2 n2.out.2.1) (And.intro (p2_keep hb2 n2.out.2.2) (b_next n1.out hb2)))); clear hb hb2
      clear q0 q1 q2 q3 a0 a1 b0 b1
      go_wp2_with fail
      go_roundw
      case rel => exact ⟨Or.inr (Or.inr rfl), n3.out⟩
      case measure => simp [intOf]
    · have n1 := Lib.hid hbl; have n2 := Lib.hid (And.intro (And.intro a0 a1) (And.intro b0 b1)); clear hbl q0 q1 q2 q3
      have hne := HN.out
      go_wp2_with fail
      (with_reducible refine (SB.out _).mono ?_); rintro e w3 ⟨rfl, hb⟩
      have n3 := Lib.hid (b_next n1.out hb); have m3 := Lib.hid (And.intro (p2_keep hb n2.out.1) (p2_keep hb n2.out.2)); clear hb a0 a1 b0 b1 hne
      obtain ⟨⟨a0, a1⟩, b0, b1⟩ := m3.out
      go_wp2_with fail
      (with_reducible refine (OF.out _ n3.out).mono ?_); rintro e w4 ⟨rfl, hb⟩
      have n4 := Lib.hid (b_next n3.out hb); have m4 := Lib.hid (And.intro (p2_keep hb m3.out.1) (p2_keep hb m3.out.2)); clear hb a0 a1 b0 b1
      obtain ⟨⟨a0, a1⟩, b0, b1⟩ := m4.out
      go_wp2_with fail
      (with_reducible refine (AT.out _ n4.out).mono ?_); rintro e w5 ⟨rfl, hb⟩
      have n5 := Lib.hid (b_next n4.out hb); have m5 := Lib.hid (And.intro (p2_keep hb m4.out.1) (p2_keep hb m4.out.2)); clear hb a0 a1 b0 b1
      obtain ⟨w6, hw6⟩ : ∃ w6, w6 = w5.alloc (.cells #[.int .i64 l', .int .i64 h', .int .i64 x', .int .i64 y', .int .i64 e'] 38) := ⟨_, rfl⟩
      have n6 : Hid (Below w.heap.size w w6) := Lib.hid (by rw [hw6]; exact b_alloc n5.out _)
      have m6 : Hid (P2 w6 w.heap.size ax ay ∧ P2 w6 (w.heap.size + 1) ax by') := Lib.hid (by rw [hw6]; exact ⟨p2_alloc _ m5.out.1, p2_alloc _ m5.out.2⟩)
      have H6 := Lib.hid hw6.symm; clear hw6
      obtain ⟨⟨a0, a1⟩, b0, b1⟩ := m5.out
      go_wp2_with fail
      rw [H6.out]
      (with_reducible refine (GR.out _ n6.out).mono ?_); rintro e w7 ⟨rfl, hb⟩
      have n7 := Lib.hid (b_next n6.out hb); have m7 := Lib.hid (And.intro (p2_keep hb m6.out.1) (p2_keep hb m6.out.2)); clear hb a0 a1 b0 b1 H6
      obtain ⟨⟨a0, a1⟩, b0, b1⟩ := m7.out
      go_wp2_with fail
      (with_reducible refine (DS.out _).mono ?_); rintro e w8 ⟨rfl, hb⟩
      have n8 := Lib.hid (b_next n7.out hb); clear hb a0 a1 b0 b1
      go_wp2_with fail
      (with_reducible refine (DU.out _).mono ?_); rintro e w9 ⟨rfl, rfl⟩
      go_wp2_with fail
      refine bodyPost_ret (v := .tuple #[.int .i64 (near / hi), .int .i64 D, .int .i64 0]) (by simp [results, Tryd.results23, go_sem]) rfl ⟨rfl, ?_⟩
      exact n8.out
end Wind
end Go.Proofs.YtkapllakofndlaaDoor
