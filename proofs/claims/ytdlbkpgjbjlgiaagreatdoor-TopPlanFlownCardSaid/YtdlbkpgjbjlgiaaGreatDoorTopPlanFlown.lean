/- P161..: a plan that is printed and read again yields the same tube. For every plan, chart, type and wind. -/
import Derived.Test.YtdlbkpgjbjlgiaaGreatDoorTopH
import Derived.Test.YtdlbkpgjbjlgiaaGreatDoorJ27
import Derived.Test.YtdlbkpgjbjlgiaaGreatDoorJ29
import Derived.Test.YtdlbkpgjbjlgiaaGreatDoorJ34
import Derived.Test.YtdlbkpgjbjlgiaaGreatDoorKJ34
import Derived.Test.YtdlbkpgjbjlgiaaGreatDoorDoorV
import Derived.Test.YtdlbkpgjbjlgiaaGreatDoorCards
namespace Go.Proofs.YtdlbkpgjbjlgiaaGreatDoor
open Go.RowKit Go.ChangeShapes Go.WideShapes
namespace TopPlanFlown
open Kit Plane Chart Route Fly Ang
/-- One node of a tube. -/
structure N6 (w : World) (b o : Nat) (f : Nat → Int) : Prop where
  c0 : w.cell? ⟨b, o, none⟩ = some (.int .i64 (f 0))
  c1 : w.cell? ⟨b, o + 1, none⟩ = some (.int .i64 (f 1))
  c2 : w.cell? ⟨b, o + 2, none⟩ = some (.int .i64 (f 2))
  c3 : w.cell? ⟨b, o + 3, none⟩ = some (.int .i64 (f 3))
  c4 : w.cell? ⟨b, o + 4, none⟩ = some (.int .i64 (f 4))
  c5 : w.cell? ⟨b, o + 5, none⟩ = some (.int .i64 (f 5))
theorem n6_keep {W w1 : World} (hb : Below W.heap.size W w1) {b o : Nat} {f : Nat → Int} (h : N6 W b o f) : N6 w1 b o f := ⟨keep hb h.c0, keep hb h.c1, keep hb h.c2, keep hb h.c3, keep hb h.c4, keep hb h.c5⟩
/-- The nodes of a tube. -/
def NT (w : World) (v : Value) (M : Nat) (f : Nat → Nat → Int) : Prop := (M = 0 ∧ ∃ A c, v = .slice A 0 c) ∨ (0 < M ∧ M ≤ 9223372036854775807 ∧ ∃ b c, v = .slice (some ⟨b, 0, none⟩) M c ∧ ∀ i, i < M → N6 w b (i * 6) (f i))
theorem nt_keep {W w1 : World} (hb : Below W.heap.size W w1) {v : Value} {M : Nat} {f : Nat → Nat → Int} (h : NT W v M f) : NT w1 v M f := by
  rcases h with h | ⟨h0, hm, b, c, e, h1⟩
  · exact Or.inl h
  · exact Or.inr ⟨h0, hm, b, c, e, fun i hi => n6_keep hb (h1 i hi)⟩
theorem nt_slice {w : World} {v : Value} {M : Nat} {f : Nat → Nat → Int} (h : NT w v M f) : ∃ A c, v = .slice A M c := by
  rcases h with ⟨rfl, A, c, e⟩ | ⟨-, -, b, c, e, -⟩
  · exact ⟨A, c, e⟩
  · exact ⟨_, c, e⟩
theorem nt_nil (w : World) (f : Nat → Nat → Int) : NT w (.slice none 0 0) 0 f := Or.inl ⟨rfl, none, 0, rfl⟩
set_option maxRecDepth 100000 in
set_option maxHeartbeats 4000000 in
/-- Two tubes with the same nodes are the same. -/
theorem same_w (A B : Option Addr) (M c d : Nat) (f : Nat → Nat → Int) (w : World) (HA : Hid (NT w (.slice A M c) M f)) (HB : Hid (NT w (.slice B M d) M f)) :
    Calls Tryz.prog 13 #[.slice A M c, .slice B M d] w fun e w' => e = .returned (.bool true) ∧ Below w.heap.size w w' := by
  have g0 : ((M : Int) != (M : Int)) = false := by simp
  have hM : M ≤ 9223372036854775807 := by rcases HA.out with ⟨h, -⟩ | ⟨-, h, -⟩ <;> omega
  go_enter Tryz.func13, Tryz.ntmps13
  go_wp2_with fail
  go_loopw [13] (fun s wr => ∃ i : Nat, i ≤ M ∧ s = .int .i64 i ∧ Below w.heap.size w wr) (fun s _ => M - (intOf s).toNat)
  case atStart => exact ⟨0, Nat.zero_le _, rfl, Below.refl _ _⟩
  case round =>
    obtain ⟨i, hi, rfl, hbl⟩ := hrel
    by_cases hlt : i < M
    · have hl : (i : Int) < (M : Int) := by omega
      have ha : ∃ b, A = some ⟨b, 0, none⟩ ∧ N6 wr b (i * 6) (f i) := by
        rcases HA.out with ⟨h, -⟩ | ⟨-, -, b, c', e, h⟩
        · omega
        · injection e with e _ _; exact ⟨b, e, n6_keep hbl (h i hlt)⟩
      have hb : ∃ b, B = some ⟨b, 0, none⟩ ∧ N6 wr b (i * 6) (f i) := by
        rcases HB.out with ⟨h, -⟩ | ⟨-, -, b, c', e, h⟩
        · omega
        · injection e with e _ _; exact ⟨b, e, n6_keep hbl (h i hlt)⟩
      obtain ⟨b1, rfl, na⟩ := ha
      obtain ⟨b2, rfl, nb⟩ := hb
      have HLT := Lib.hid hlt; have A0 := Lib.hid na; have C0 := Lib.hid nb; have BR := Lib.hid hbl
      clear na nb hbl
      generalize f i = fi at *
      go_wp2_with fail
      refine d_region (by kernel_rfl) (by kernel_rfl) ?_
      repeat
        first
          | (refine d_plain (by with_reducible rfl) ?_; apply Exists.intro; refine ⟨fun wq hc hq => ?_, ?_⟩)
          | (refine d_on (by with_reducible rfl) (by rfl) (by with_reducible rfl) ?_; apply Exists.intro; refine ⟨fun wq hc hq => ?_, ?_⟩)
          | (refine d_off (by with_reducible rfl) (by rfl) (by rfl) ?_)
          | (refine d_void (by with_reducible rfl) (by rfl) ?_)
        try any_goals
          (obtain ⟨p0, p1, p2, p3, p4, p5⟩ := n6_keep (cls hq) A0.out; obtain ⟨q0, q1, q2, q3, q4, q5⟩ := n6_keep (cls hq) C0.out; clear hc
           go_simp
           first
             | rfl)
        simp only [Act.put, List.setIfInBounds_toArray, List.set_cons_zero, List.set_cons_succ]
      refine d_nil ?_
      intro w7 hb7
      have B7 := Lib.hid (b_next BR.out hb7); clear hb7
      go_wp2_with fail
      go_roundw
      case rel => exact ⟨i + 1, HLT.out, by go_num, B7.out⟩
      case measure => have := HLT.out; simp [intOf]; omega
    · obtain rfl : i = M := by omega
      have hl : ¬ (i : Int) < (i : Int) := by omega
      have BR := Lib.hid hbl; clear hbl
      go_wp2_with fail
      go_ret
      exact ⟨rfl, BR.out⟩
abbrev TbC (cl kd f t ks : ByteArray) (off sp h kw ceil climb desc slow fast : Int) (A1 A2 A4 : Option Addr) (n k1 m k2 nr nw k4 M : Nat) (E : Int) (g : Nat → Nat → Int) (R : List ByteArray) (w : World) : Prop := ∀ w1 A3 k3, Below w.heap.size w w1 → SL w1 (.slice A3 nr k3) R → Calls Tryz.prog 10 #[.agg #[.string cl, .string kd, .string f, .string t, .int .i64 off, .int .i64 sp, .int .i64 h, .slice A3 nr k3], .agg #[.slice A1 n k1, .slice A2 m k2], .agg #[.string ks, .int .i64 kw, .int .i64 ceil, .int .i64 climb, .int .i64 desc, .int .i64 slow, .int .i64 fast], .slice A4 nw k4, .int .i64 500, .int .i64 60, .int .i64 100] w1 fun e w' => (∃ v1 v2, e = .returned (.tuple #[v1, v2, .int .i64 E]) ∧ NT w' v2 M g) ∧ Below w1.heap.size w1 w'
abbrev Res (cl kd f t ks : ByteArray) (off sp h kw ceil climb desc slow fast : Int) (A1 A2 A3 A4 : Option Addr) (n k1 m k2 nr k3 nw k4 : Nat) (w : World) : Prop := Calls Tryz.prog 4 #[.agg #[.string cl, .string kd, .string f, .string t, .int .i64 off, .int .i64 sp, .int .i64 h, .slice A3 nr k3], .agg #[.slice A1 n k1, .slice A2 m k2], .agg #[.string ks, .int .i64 kw, .int .i64 ceil, .int .i64 climb, .int .i64 desc, .int .i64 slow, .int .i64 fast], .slice A4 nw k4] w fun e w' => e = .returned (.bool true) ∧ Below w.heap.size w w'
set_option maxRecDepth 100000 in
set_option maxHeartbeats 8000000 in
theorem core_bad (cl kd f t ks : ByteArray) (off sp h kw ceil climb desc slow fast : Int) (A1 A2 A3 A4 : Option Addr) (n k1 m k2 nr k3 nw k4 : Nat) (E F : Int) (g : Nat → Nat → Int) (R : List ByteArray) (w : World) (HR : Hid (SL w (.slice A3 nr k3) R)) (hE : (E != 0) = true) (hF : (F != 0) = true)
    (WK : Hid (∀ w1, Below w.heap.size w w1 → Calls Tryz.prog 5 #[] w1 fun e w' => e = .returned (.bool true) ∧ Below w1.heap.size w1 w'))
    (TB : Hid (TbC cl kd f t ks off sp h kw ceil climb desc slow fast A1 A2 A4 n k1 m k2 nr nw k4 0 E g R w))
    (PR : Hid (∀ w1, Below w.heap.size w w1 → Calls Tryz.prog 11 #[.agg #[.string cl, .string kd, .string f, .string t, .int .i64 off, .int .i64 sp, .int .i64 h, .slice A3 nr k3]] w1 fun e w' => e = .returned (.tuple #[.string ⟨#[]⟩, .int .i64 F]) ∧ Below w1.heap.size w1 w')) : Res cl kd f t ks off sp h kw ceil climb desc slow fast A1 A2 A3 A4 n k1 m k2 nr k3 nw k4 w := by
  have n8 := Plan.n8_new w 24 cl kd f t off sp h (.slice A3 nr k3)
  have P0 : Hid (Plan.N8 (((w.alloc (.cells #[.string cl, .string kd, .string f, .string t, .int .i64 off, .int .i64 sp, .int .i64 h, .slice A3 nr k3] 24)).alloc (.cells #[.slice A1 n k1, .slice A2 m k2] 28)).alloc (.cells #[.string ks, .int .i64 kw, .int .i64 ceil, .int .i64 climb, .int .i64 desc, .int .i64 slow, .int .i64 fast] 45)) w.heap.size cl kd f t off sp h (.slice A3 nr k3)) := Lib.hid (Plan.n8_keep (b_alloc (b_alloc (Below.refl _ _) _) _) n8)
  have p2 := p2v_new (w.alloc (.cells #[.string cl, .string kd, .string f, .string t, .int .i64 off, .int .i64 sp, .int .i64 h, .slice A3 nr k3] 24)) 28 (.slice A1 n k1) (.slice A2 m k2)
  have H0 : Hid (P2V (((w.alloc (.cells #[.string cl, .string kd, .string f, .string t, .int .i64 off, .int .i64 sp, .int .i64 h, .slice A3 nr k3] 24)).alloc (.cells #[.slice A1 n k1, .slice A2 m k2] 28)).alloc (.cells #[.string ks, .int .i64 kw, .int .i64 ceil, .int .i64 climb, .int .i64 desc, .int .i64 slow, .int .i64 fast] 45)) (w.heap.size + 1) (.slice A1 n k1) (.slice A2 m k2)) := Lib.hid (by rw [World.size_alloc] at p2; exact p2v_keep (b_alloc (Below.refl _ _) _) p2)
  have k7 := Kind.k7_new ((w.alloc (.cells #[.string cl, .string kd, .string f, .string t, .int .i64 off, .int .i64 sp, .int .i64 h, .slice A3 nr k3] 24)).alloc (.cells #[.slice A1 n k1, .slice A2 m k2] 28)) 45 ks kw ceil climb desc slow fast
  have K0 : Hid (Kind.K7 (((w.alloc (.cells #[.string cl, .string kd, .string f, .string t, .int .i64 off, .int .i64 sp, .int .i64 h, .slice A3 nr k3] 24)).alloc (.cells #[.slice A1 n k1, .slice A2 m k2] 28)).alloc (.cells #[.string ks, .int .i64 kw, .int .i64 ceil, .int .i64 climb, .int .i64 desc, .int .i64 slow, .int .i64 fast] 45)) (w.heap.size + 2) ks kw ceil climb desc slow fast) := Lib.hid (by simp only [World.size_alloc] at k7; exact k7)
  have B0 := Lib.hid (b_alloc (b_alloc (b_alloc (Below.refl w.heap.size w) (.cells #[.string cl, .string kd, .string f, .string t, .int .i64 off, .int .i64 sp, .int .i64 h, .slice A3 nr k3] 24)) (.cells #[.slice A1 n k1, .slice A2 m k2] 28)) (.cells #[.string ks, .int .i64 kw, .int .i64 ceil, .int .i64 climb, .int .i64 desc, .int .i64 slow, .int .i64 fast] 45))
  clear n8 p2 k7
  go_enter Tryz.func4, Tryz.ntmps4
  go_wp2_with fail
  (with_reducible refine (WK.out _ B0.out).mono ?_); rintro e w1 ⟨rfl, hb⟩
  have B1 := Lib.hid (b_next B0.out hb); have P1 := Lib.hid (Plan.n8_keep hb P0.out); have H1 := Lib.hid (p2v_keep hb H0.out); have K1 := Lib.hid (Kind.k7_keep hb K0.out); clear hb
  obtain ⟨x0, x1, x2, x3, x4, x5, x6, x7⟩ := P1.out; obtain ⟨d0, d1⟩ := H1.out; obtain ⟨e0, e1, e2, e3, e4, e5, e6⟩ := K1.out
  go_wp2_with fail
  (with_reducible refine (TB.out _ _ _ B1.out (sl_keep B1.out HR.out)).mono ?_); rintro e w2 ⟨⟨v1, v2, rfl, hnt⟩, hb⟩
  obtain ⟨A6, k6, rfl⟩ := nt_slice hnt
  have B2 := Lib.hid (b_next B1.out hb); have P2 := Lib.hid (Plan.n8_keep hb P1.out); have H2 := Lib.hid (p2v_keep hb H1.out); have K2 := Lib.hid (Kind.k7_keep hb K1.out); clear hb hnt x0 x1 x2 x3 x4 x5 x6 x7 d0 d1 e0 e1 e2 e3 e4 e5 e6
  obtain ⟨x0, x1, x2, x3, x4, x5, x6, x7⟩ := P2.out; obtain ⟨d0, d1⟩ := H2.out; obtain ⟨e0, e1, e2, e3, e4, e5, e6⟩ := K2.out
  go_wp2_with fail
  (with_reducible refine (PR.out _ B2.out).mono ?_); rintro e w3 ⟨rfl, hb⟩
  have B3 := Lib.hid (b_next B2.out hb); clear hb x0 x1 x2 x3 x4 x5 x6 x7 d0 d1 e0 e1 e2 e3 e4 e5 e6
  go_wp2_with fail
  go_ret
  exact ⟨rfl, B3.out⟩
set_option maxRecDepth 100000 in
set_option maxHeartbeats 8000000 in
theorem core_ok (cl kd f t ks : ByteArray) (off sp h kw ceil climb desc slow fast : Int) (A1 A2 A3 A4 : Option Addr) (n k1 m k2 nr k3 nw k4 M : Nat) (E : Int) (g : Nat → Nat → Int) (R : List ByteArray) (S : ByteArray) (w : World) (HR : Hid (SL w (.slice A3 nr k3) R)) (hRl : R.length = nr)
    (WK : Hid (∀ w1, Below w.heap.size w w1 → Calls Tryz.prog 5 #[] w1 fun e w' => e = .returned (.bool true) ∧ Below w1.heap.size w1 w'))
    (TB : Hid (TbC cl kd f t ks off sp h kw ceil climb desc slow fast A1 A2 A4 n k1 m k2 nr nw k4 M E g R w))
    (PR : Hid (∀ w1, Below w.heap.size w w1 → Calls Tryz.prog 11 #[.agg #[.string cl, .string kd, .string f, .string t, .int .i64 off, .int .i64 sp, .int .i64 h, .slice A3 nr k3]] w1 fun e w' => e = .returned (.tuple #[.string S, .int .i64 0]) ∧ Below w1.heap.size w1 w'))
    (PA : Hid (∀ w1, Below w.heap.size w w1 → Calls Tryz.prog 12 #[.string S] w1 fun e w' => (∃ v, e = .returned (.tuple #[Plan.plan cl kd f t off sp h v, .int .i64 0]) ∧ SL w' v R) ∧ Below w1.heap.size w1 w')) : Res cl kd f t ks off sp h kw ceil climb desc slow fast A1 A2 A3 A4 n k1 m k2 nr k3 nw k4 w := by
  have n8 := Plan.n8_new w 24 cl kd f t off sp h (.slice A3 nr k3)
  have P0 : Hid (Plan.N8 (((w.alloc (.cells #[.string cl, .string kd, .string f, .string t, .int .i64 off, .int .i64 sp, .int .i64 h, .slice A3 nr k3] 24)).alloc (.cells #[.slice A1 n k1, .slice A2 m k2] 28)).alloc (.cells #[.string ks, .int .i64 kw, .int .i64 ceil, .int .i64 climb, .int .i64 desc, .int .i64 slow, .int .i64 fast] 45)) w.heap.size cl kd f t off sp h (.slice A3 nr k3)) := Lib.hid (Plan.n8_keep (b_alloc (b_alloc (Below.refl _ _) _) _) n8)
  have p2 := p2v_new (w.alloc (.cells #[.string cl, .string kd, .string f, .string t, .int .i64 off, .int .i64 sp, .int .i64 h, .slice A3 nr k3] 24)) 28 (.slice A1 n k1) (.slice A2 m k2)
  have H0 : Hid (P2V (((w.alloc (.cells #[.string cl, .string kd, .string f, .string t, .int .i64 off, .int .i64 sp, .int .i64 h, .slice A3 nr k3] 24)).alloc (.cells #[.slice A1 n k1, .slice A2 m k2] 28)).alloc (.cells #[.string ks, .int .i64 kw, .int .i64 ceil, .int .i64 climb, .int .i64 desc, .int .i64 slow, .int .i64 fast] 45)) (w.heap.size + 1) (.slice A1 n k1) (.slice A2 m k2)) := Lib.hid (by rw [World.size_alloc] at p2; exact p2v_keep (b_alloc (Below.refl _ _) _) p2)
  have k7 := Kind.k7_new ((w.alloc (.cells #[.string cl, .string kd, .string f, .string t, .int .i64 off, .int .i64 sp, .int .i64 h, .slice A3 nr k3] 24)).alloc (.cells #[.slice A1 n k1, .slice A2 m k2] 28)) 45 ks kw ceil climb desc slow fast
  have K0 : Hid (Kind.K7 (((w.alloc (.cells #[.string cl, .string kd, .string f, .string t, .int .i64 off, .int .i64 sp, .int .i64 h, .slice A3 nr k3] 24)).alloc (.cells #[.slice A1 n k1, .slice A2 m k2] 28)).alloc (.cells #[.string ks, .int .i64 kw, .int .i64 ceil, .int .i64 climb, .int .i64 desc, .int .i64 slow, .int .i64 fast] 45)) (w.heap.size + 2) ks kw ceil climb desc slow fast) := Lib.hid (by simp only [World.size_alloc] at k7; exact k7)
  have B0 := Lib.hid (b_alloc (b_alloc (b_alloc (Below.refl w.heap.size w) (.cells #[.string cl, .string kd, .string f, .string t, .int .i64 off, .int .i64 sp, .int .i64 h, .slice A3 nr k3] 24)) (.cells #[.slice A1 n k1, .slice A2 m k2] 28)) (.cells #[.string ks, .int .i64 kw, .int .i64 ceil, .int .i64 climb, .int .i64 desc, .int .i64 slow, .int .i64 fast] 45))
  clear n8 p2 k7
  go_enter Tryz.func4, Tryz.ntmps4
  go_wp2_with fail
  (with_reducible refine (WK.out _ B0.out).mono ?_); rintro e w1 ⟨rfl, hb⟩
  have B1 := Lib.hid (b_next B0.out hb); have P1 := Lib.hid (Plan.n8_keep hb P0.out); have H1 := Lib.hid (p2v_keep hb H0.out); have K1 := Lib.hid (Kind.k7_keep hb K0.out); clear hb
  obtain ⟨x0, x1, x2, x3, x4, x5, x6, x7⟩ := P1.out; obtain ⟨d0, d1⟩ := H1.out; obtain ⟨e0, e1, e2, e3, e4, e5, e6⟩ := K1.out
  go_wp2_with fail
  (with_reducible refine (TB.out _ _ _ B1.out (sl_keep B1.out HR.out)).mono ?_); rintro e w2 ⟨⟨v1, v2, rfl, hnt⟩, hb⟩
  obtain ⟨A6, k6, rfl⟩ := nt_slice hnt
  have NA := Lib.hid hnt
  have B2 := Lib.hid (b_next B1.out hb); have P2 := Lib.hid (Plan.n8_keep hb P1.out); have H2 := Lib.hid (p2v_keep hb H1.out); have K2 := Lib.hid (Kind.k7_keep hb K1.out); clear hb hnt x0 x1 x2 x3 x4 x5 x6 x7 d0 d1 e0 e1 e2 e3 e4 e5 e6
  obtain ⟨x0, x1, x2, x3, x4, x5, x6, x7⟩ := P2.out; obtain ⟨d0, d1⟩ := H2.out; obtain ⟨e0, e1, e2, e3, e4, e5, e6⟩ := K2.out
  go_wp2_with fail
  (with_reducible refine (PR.out _ B2.out).mono ?_); rintro e w3 ⟨rfl, hb⟩
  have B3 := Lib.hid (b_next B2.out hb); have P3 := Lib.hid (Plan.n8_keep hb P2.out); have H3 := Lib.hid (p2v_keep hb H2.out); have K3 := Lib.hid (Kind.k7_keep hb K2.out); have NA3 := Lib.hid (nt_keep hb NA.out); clear hb x0 x1 x2 x3 x4 x5 x6 x7 d0 d1 e0 e1 e2 e3 e4 e5 e6
  obtain ⟨x0, x1, x2, x3, x4, x5, x6, x7⟩ := P3.out; obtain ⟨d0, d1⟩ := H3.out; obtain ⟨e0, e1, e2, e3, e4, e5, e6⟩ := K3.out
  go_wp2_with fail
  (with_reducible refine (PA.out _ B3.out).mono ?_); rintro e w4 ⟨⟨v, rfl, hv⟩, hb⟩
  obtain ⟨A5, k5, rfl⟩ := sl_slice hv
  rw [hRl] at hv ⊢
  have W5 := b_alloc (Below.refl w4.heap.size w4) (.cells #[.string cl, .string kd, .string f, .string t, .int .i64 off, .int .i64 sp, .int .i64 h, .slice A5 nr k5] 24)
  have B5 := Lib.hid (b_next (b_next B3.out hb) W5); have V5 := Lib.hid (sl_keep W5 hv); have NA5 := Lib.hid (nt_keep W5 (nt_keep hb NA3.out))
  have H5 := Lib.hid (p2v_keep W5 (p2v_keep hb H3.out)); have K5 := Lib.hid (Kind.k7_keep W5 (Kind.k7_keep hb K3.out))
  clear hb hv W5 x0 x1 x2 x3 x4 x5 x6 x7 d0 d1 e0 e1 e2 e3 e4 e5 e6
  obtain ⟨d0, d1⟩ := H5.out; obtain ⟨e0, e1, e2, e3, e4, e5, e6⟩ := K5.out
  go_wp2_with fail
  (with_reducible refine (TB.out _ _ _ B5.out V5.out).mono ?_); rintro e w6 ⟨⟨u1, u2, rfl, hnt⟩, hb⟩
  obtain ⟨A7, k7, rfl⟩ := nt_slice hnt
  have NB := Lib.hid hnt; have NA6 := Lib.hid (nt_keep hb NA5.out); have B6 := Lib.hid (b_next B5.out hb)
  clear hb hnt d0 d1 e0 e1 e2 e3 e4 e5 e6
  have SM := Lib.hid (same_w A6 A7 M k6 k7 g w6 NA6 NB)
  have gE : (E == E) = true := by simp
  go_wp2_with fail
  (with_reducible refine SM.out.mono ?_); rintro e w7 ⟨rfl, hb⟩
  have B7 := Lib.hid (b_next B6.out hb); clear hb
  go_wp2_with fail
  go_ret
  exact ⟨rfl, B7.out⟩
theorem pv_own0 {w : World} {base : Nat} {E : TypeId} {v : Value} {n : Nat} {f : Nat → Nat → Int} (h : Own w base E 4 v n f) : Path.PV w v n (fun k => f k 0) (fun k => f k 1) (fun k => f k 2) (fun k => f k 3) := by
  rcases Nat.eq_zero_or_pos n with rfl | h0
  · rcases h.2 with ⟨rfl, -⟩ | ⟨g, cap, cur, rfl, -, -, -, hc, -⟩
    · exact Or.inl ⟨rfl, Or.inl rfl⟩
    · exact Or.inl ⟨rfl, Or.inr ⟨_, cap, rfl, hc⟩⟩
  obtain ⟨g, cap, rfl, -, -, h1, h2, hr⟩ := own_row h h0
  refine Or.inr ⟨h0, g, 0, cap, rfl, h1, h2, fun k hk => ⟨⟨?_, ?_⟩, ?_, ?_⟩⟩ <;> rw [Nat.zero_add]
  · exact hr.cell k hk 0 (by decide)
  · exact hr.cell k hk 1 (by decide)
  · exact hr.cell k hk 2 (by decide)
  · exact hr.cell k hk 3 (by decide)
theorem nt_row {w : World} {b n cap : Nat} {f : Nat → Nat → Int} (h0 : 0 < n) (hm : n ≤ 9223372036854775807) (h : RowAt w b n 6 f) : NT w (.slice (some ⟨b, 0, none⟩) n cap) n f :=
  Or.inr ⟨h0, hm, b, cap, rfl, fun i hi => ⟨by have q := h.cell i hi 0 (by decide); rwa [Nat.add_zero] at q, h.cell i hi 1 (by decide), h.cell i hi 2 (by decide), h.cell i hi 3 (by decide), h.cell i hi 4 (by decide), h.cell i hi 5 (by decide)⟩⟩
section
variable {n : Nat} {N : Nat → ByteArray} {X Y : Nat → Int} {m : Nat} {M : Nat → ByteArray} {l : Nat → Nat} {S : Nat → Nat → ByteArray} {nw : Nat} {L H WX WY WE : Nat → Int}
set_option maxHeartbeats 4000000 in
/-- What one tube is, for one plan. -/
theorem tb_all (cl kd f t ks : ByteArray) (off sp h kw ceil climb desc slow fast : Int) (A1 A2 A4 : Option Addr) (c1 c2 c4 : Nat) (R : List ByteArray) (W : World) (T : Ang.Tabs W) (hc : CV W (.agg #[.slice A1 n c1, .slice A2 m c2]) n N X Y m M l S) (hw : Wind.WV W (.slice A4 nw c4) nw L H WX WY WE) :
    ∃ M' E g, TbC cl kd f t ks off sp h kw ceil climb desc slow fast A1 A2 A4 n c1 m c2 R.length nw c4 M' E g R W ∧ (rtE n N X Y m M l S cl kd f t off sp h R.length (Pt.rtF R) ≠ 0 → E = rtE n N X Y m M l S cl kd f t off sp h R.length (Pt.rtF R) ∧ M' = 0) := by
  have EXA := fun w1 A3 k3 (hb : Below W.heap.size W w1) (hr : SL w1 (.slice A3 R.length k3) R) w2 (hb2 : Below w1.heap.size w1 w2) => expandC (cl := cl) (kd := kd) (f := f) (t := t) (off := off) (sp := sp) (h := h) (sv_keep hb2 hr) (cv_keep (b_next hb hb2) hc)
  have PTH := fun w1 A3 k3 (hb : Below W.heap.size W w1) (hr : SL w1 (.slice A3 R.length k3) R) w2 (hb2 : Below w1.heap.size w1 w2) v (k : Nat) (NN : Nat → ByteArray) (X' Y' : Nat → Int) (hv : FV w2 v k NN X' Y') => pathC (cl := cl) (kd := kd) (fr := f) (t := t) (ks := ks) (off := off) (sp := sp) (h := h) (kw := kw) (ceil := ceil) (climb := climb) (desc := desc) (slow := slow) (fast := fast) (Ang.tabs_keep (b_next hb hb2) T) hv (sv_keep hb2 hr) (Wind.wv_keep (b_next hb hb2) hw) w2 (Below.refl _ _)
  by_cases hE : rtE n N X Y m M l S cl kd f t off sp h R.length (Pt.rtF R) = 0
  · obtain ⟨TT, hT⟩ : ∃ T, T = rts m M l S f t (lst R.length (Pt.rtF R)) := ⟨_, rfl⟩
    obtain ⟨FX, hFX⟩ : ∃ FX : Nat → Int, FX = fun j => X (pos n N (nth TT j)) := ⟨_, rfl⟩
    obtain ⟨FY, hFY⟩ : ∃ FY : Nat → Int, FY = fun j => Y (pos n N (nth TT j)) := ⟨_, rfl⟩
    have EX : ∀ w1 A3 k3, Below W.heap.size W w1 → SL w1 (.slice A3 R.length k3) R → ∀ w2, Below w1.heap.size w1 w2 → Calls Tryz.prog 6 #[Plan.plan cl kd f t off sp h (.slice A3 R.length k3), .agg #[.slice A1 n c1, .slice A2 m c2]] w2 fun e w' => (∃ v, e = .returned (.tuple #[v, .int .i64 0]) ∧ FV w' v TT.length (nth TT) FX FY) ∧ Below w2.heap.size w2 w' := fun w1 A3 k3 hb hr w2 hb2 => (EXA w1 A3 k3 hb hr w2 hb2).mono fun e w' ⟨hp, hb'⟩ => by
      rcases hp with ⟨h0, -⟩ | ⟨-, v, he, hv⟩
      · exact absurd hE h0
      · refine ⟨⟨v, he, ?_⟩, hb'⟩
        rw [hFX, hFY, hT]; exact hv
    clear EXA
    by_cases hE2 : pthE TT.length FX FY cl kd f t ks off sp h kw ceil climb desc slow fast R.length (Pt.rtF R) nw L H WX WY WE = 0
    · generalize hD : lgs sp h nw L H WX WY WE FX FY TT.length = D at *
      by_cases h2 : 200000 < fen off D TT.length
      · refine ⟨0, 12, fun _ _ => 0, fun w1 A3 k3 hb hr => (Top.tube_no cl kd f t ks off sp h kw ceil climb desc slow fast 500 60 100 A1 A2 A3 A4 n c1 m c2 R.length k3 nw c4 12 TT.length (nth TT) FX FY w1 (by decide) (Lib.hid fun w2 hb2 => EX w1 A3 k3 hb hr w2 hb2) (Lib.hid fun w2 v hb2 hv => (PTH w1 A3 k3 hb hr w2 hb2 v _ _ _ _ hv).mono fun e w' ⟨hh, hb'⟩ => ⟨?_, hb'⟩)).mono fun e w' ⟨he, hb'⟩ => ⟨⟨_, _, he, nt_nil _ _⟩, hb'⟩, fun q => absurd hE q⟩
        rw [hD] at hh
        rcases hh with ⟨h0, -⟩ | ⟨-, ⟨-, he⟩ | ⟨h0, -⟩⟩
        · exact absurd hE2 h0
        · exact he
        · omega
      · have PT : ∀ w1 A3 k3, Below W.heap.size W w1 → SL w1 (.slice A3 R.length k3) R → ∀ w2 v, Below w1.heap.size w1 w2 → FV w2 v TT.length (nth TT) FX FY → Calls Tryz.prog 34 #[v, Plan.plan cl kd f t off sp h (.slice A3 R.length k3), .agg #[.string ks, .int .i64 kw, .int .i64 ceil, .int .i64 climb, .int .i64 desc, .int .i64 slow, .int .i64 fast], .slice A4 nw c4] w2 fun e w' => (∃ v, e = .returned (.tuple #[v, .int .i64 0]) ∧ Path.PV w' v (stN off h climb desc D FX FY TT.length (stK off h climb desc D TT.length)) (fun k => fin off h climb desc ceil (fen off D TT.length - off) (stF off h climb desc D FX FY TT.length (stK off h climb desc D TT.length)) k 0) (fun k => fin off h climb desc ceil (fen off D TT.length - off) (stF off h climb desc D FX FY TT.length (stK off h climb desc D TT.length)) k 1) (fun k => fin off h climb desc ceil (fen off D TT.length - off) (stF off h climb desc D FX FY TT.length (stK off h climb desc D TT.length)) k 2) (fun k => fin off h climb desc ceil (fen off D TT.length - off) (stF off h climb desc D FX FY TT.length (stK off h climb desc D TT.length)) k 3)) ∧ Below w2.heap.size w2 w' := fun w1 A3 k3 hb hr w2 v hb2 hv => (PTH w1 A3 k3 hb hr w2 hb2 v _ _ _ _ hv).mono fun e w' ⟨hh, hb'⟩ => by
          rw [hD] at hh
          rcases hh with ⟨h0, -⟩ | ⟨-, ⟨h0, -⟩ | ⟨-, v2, he, base, ho⟩⟩
          · exact absurd hE2 h0
          · exact absurd h0 h2
          · exact ⟨⟨v2, he, pv_own0 ho⟩, hb'⟩
        clear PTH
        generalize stN off h climb desc D FX FY TT.length (stK off h climb desc D TT.length) = Q at *
        generalize fin off h climb desc ceil (fen off D TT.length - off) (stF off h climb desc D FX FY TT.length (stK off h climb desc D TT.length)) = P at *
        by_cases hO : Tube.ofE (fun k => P k 0) (fun k => P k 1) (fun k => P k 2) (fun k => P k 3) Q 500 60 100 = 0
        · have hQ : 0 < Q := by have := (Tube.ofE_zero hO).1.path.1; omega
          exact ⟨Q, 0, Tube.ofF (fun k => P k 0) (fun k => P k 1) (fun k => P k 2) (fun k => P k 3) 500 100 (Tube.wid (fun k => P k 0) 60), fun w1 A3 k3 hb hr => (Top.tube_go cl kd f t ks off sp h kw ceil climb desc slow fast 500 60 100 A1 A2 A3 A4 n c1 m c2 R.length k3 nw c4 0 TT.length Q (nth TT) FX FY _ _ _ _ (fun w' v => NT w' v Q (Tube.ofF (fun k => P k 0) (fun k => P k 1) (fun k => P k 2) (fun k => P k 3) 500 100 (Tube.wid (fun k => P k 0) 60))) w1 (Lib.hid fun w2 hb2 => EX w1 A3 k3 hb hr w2 hb2) (Lib.hid fun w2 v hb2 hv => PT w1 A3 k3 hb hr w2 v hb2 hv) (Lib.hid fun w2 v hb2 hv => (Tube.of_ok hv hO).mono fun e w' ⟨b, cap, he, h1, h2, h3, _, hb'⟩ => ⟨⟨_, he, nt_row hQ (Nat.le_trans (Nat.le_trans h1 h2) (by decide)) h3⟩, hb'⟩)).mono fun e w' ⟨⟨v1, v2, he, _, hg⟩, hb'⟩ => ⟨⟨v1, v2, he, hg⟩, hb'⟩, fun q => absurd hE q⟩
        · exact ⟨0, _, fun _ _ => 0, fun w1 A3 k3 hb hr => (Top.tube_go cl kd f t ks off sp h kw ceil climb desc slow fast 500 60 100 A1 A2 A3 A4 n c1 m c2 R.length k3 nw c4 _ TT.length Q (nth TT) FX FY _ _ _ _ (fun w' v => NT w' v 0 fun _ _ => 0) w1 (Lib.hid fun w2 hb2 => EX w1 A3 k3 hb hr w2 hb2) (Lib.hid fun w2 v hb2 hv => PT w1 A3 k3 hb hr w2 v hb2 hv) (Lib.hid fun w2 v hb2 hv => (Tube.of_bad hv hO).mono fun e w' ⟨he, hb'⟩ => ⟨⟨_, he, nt_nil _ _⟩, hb'⟩)).mono fun e w' ⟨⟨v1, v2, he, _, hg⟩, hb'⟩ => ⟨⟨v1, v2, he, hg⟩, hb'⟩, fun q => absurd hE q⟩
    · refine ⟨0, _, fun _ _ => 0, fun w1 A3 k3 hb hr => (Top.tube_no cl kd f t ks off sp h kw ceil climb desc slow fast 500 60 100 A1 A2 A3 A4 n c1 m c2 R.length k3 nw c4 (pthE TT.length FX FY cl kd f t ks off sp h kw ceil climb desc slow fast R.length (Pt.rtF R) nw L H WX WY WE) TT.length (nth TT) FX FY w1 (by simpa using hE2) (Lib.hid fun w2 hb2 => EX w1 A3 k3 hb hr w2 hb2) (Lib.hid fun w2 v hb2 hv => (PTH w1 A3 k3 hb hr w2 hb2 v _ _ _ _ hv).mono fun e w' ⟨hh, hb'⟩ => ⟨?_, hb'⟩)).mono fun e w' ⟨he, hb'⟩ => ⟨⟨_, _, he, nt_nil _ _⟩, hb'⟩, fun q => absurd hE q⟩
      rcases hh with ⟨-, he⟩ | ⟨h0, -⟩
      · exact he
      · exact absurd h0 hE2
  · refine ⟨0, _, fun _ _ => 0, fun w1 A3 k3 hb hr => (Top.tube_bad cl kd f t ks off sp h kw ceil climb desc slow fast 500 60 100 A1 A2 A3 A4 n c1 m c2 R.length k3 nw c4 (rtE n N X Y m M l S cl kd f t off sp h R.length (Pt.rtF R)) w1 (by simpa using hE) (Lib.hid fun w2 hb2 => (EXA w1 A3 k3 hb hr w2 hb2).mono fun e w' ⟨hp, hb'⟩ => ⟨?_, hb'⟩)).mono fun e w' ⟨he, hb'⟩ => ⟨⟨_, _, he, nt_nil _ _⟩, hb'⟩, fun _ => ⟨rfl, rfl⟩⟩
    rcases hp with ⟨-, he⟩ | ⟨h0, -⟩
    · exact he
    · exact absurd h0 hE
end
theorem sl_okc {W : World} {v : Value} (h : Frame.Okc W (.sl [.str]) v) : ∃ L, SL W v L := by
  obtain ⟨n, S, h'⟩ := sv_of h
  exact ⟨_, sl_of_sv h'⟩
theorem walk (cl kd f t : ByteArray) (off sp h : Int) (p_route c_fixes c_airways : Value) (ks : ByteArray) (kw ceil climb desc slow fast : Int) (ww : Value) (W : World) (hL : laidMetH Tryz.prog DoorV.laid W ∧ W.ShapedOpen Tryz.prog) (_h0 : cl.size ≤ maxLen) (_h1 : kd.size ≤ maxLen) (_h2 : f.size ≤ maxLen) (_h3 : t.size ≤ maxLen) (_h4 : -9223372036854775808 ≤ off ∧ off ≤ 9223372036854775807) (_h5 : -9223372036854775808 ≤ sp ∧ sp ≤ 9223372036854775807) (_h6 : -9223372036854775808 ≤ h ∧ h ≤ 9223372036854775807) (h_p_route : Frame.Okc W (.sl [.str]) p_route) (h_c_fixes : Frame.Okc W (.sl [.str, .int, .int]) c_fixes) (h_c_airways : Frame.Okc W (.sl [.str, .sl [.str]]) c_airways) (_h7 : ks.size ≤ maxLen) (_h8 : -9223372036854775808 ≤ kw ∧ kw ≤ 9223372036854775807) (_h9 : -9223372036854775808 ≤ ceil ∧ ceil ≤ 9223372036854775807) (_ha : -9223372036854775808 ≤ climb ∧ climb ≤ 9223372036854775807) (_hb : -9223372036854775808 ≤ desc ∧ desc ≤ 9223372036854775807) (_hc : -9223372036854775808 ≤ slow ∧ slow ≤ 9223372036854775807) (_hd : -9223372036854775808 ≤ fast ∧ fast ≤ 9223372036854775807) (h_w : Frame.Okc W (.sl [.int, .int, .int, .int, .int]) ww) :
    Calls Tryz.prog 4 #[.agg #[.string cl, .string kd, .string f, .string t, .int .i64 off, .int .i64 sp, .int .i64 h, p_route], .agg #[c_fixes, c_airways], .agg #[.string ks, .int .i64 kw, .int .i64 ceil, .int .i64 climb, .int .i64 desc, .int .i64 slow, .int .i64 fast], ww] W fun e w' => e = .returned (.bool true) ∧ Below W.heap.size W w' := by
  have TB := DoorV.tabs_of hL.1
  have V := DoorV.vars_of hL
  obtain ⟨R, hr⟩ := sl_okc h_p_route
  obtain ⟨n, N, X, Y, m, M, l, S, hc⟩ := cv_of h_c_fixes h_c_airways
  obtain ⟨nw, L, H, WX, WY, WE, hw, -⟩ := Wind.wv_of h_w
  obtain ⟨fx', a', e, hf, ha⟩ := hc.ex
  injection e with e
  obtain ⟨rfl, rfl⟩ : c_fixes = fx' ∧ c_airways = a' := by simpa using e
  clear e
  obtain ⟨A3, c3, rfl⟩ := sv_slice hr
  obtain ⟨A1, c1, rfl⟩ := fv_slice hf
  obtain ⟨A2, c2, rfl⟩ := av_slice ha
  obtain ⟨A4, c4, rfl⟩ := Wind.wv_slice hw
  obtain ⟨M', E, g, hT, hE⟩ := tb_all cl kd f t ks off sp h kw ceil climb desc slow fast A1 A2 A4 c1 c2 c4 R W TB hc hw
  have WK : ∀ w1, Below W.heap.size W w1 → Calls Tryz.prog 5 #[] w1 fun e w' => e = .returned (.bool true) ∧ Below w1.heap.size w1 w' := fun w1 hb => Top.h05Works (Ang.tabs_keep hb TB)
  have PR := fun w1 (hb : Below W.heap.size W w1) => Pt.printC (Pt.vars_keep hb V) (sv_keep hb hr : SL w1 _ R) cl kd f t off sp h
  by_cases hP : Plan.planE cl kd f t off sp h R.length (Pt.rtF R) = 0
  · simp only [if_pos hP] at PR
    rw [hP] at PR
    have o := Pt.plan_ok hP
    refine core_ok cl kd f t ks off sp h kw ceil climb desc slow fast A1 A2 A3 A4 n c1 m c2 R.length c3 nw c4 M' E g R (Pt.ptext cl kd f t off sp h R) W (Lib.hid hr) rfl (Lib.hid WK) (Lib.hid hT) (Lib.hid fun w1 hb => (PR w1 hb).mono fun e w' hh => hh) (Lib.hid fun w1 hb => (Pt.parseC (Pt.vars_keep hb V) _).mono fun e w' ⟨hh, hb'⟩ => ⟨?_, hb'⟩)
    rcases hh with ⟨E', -, -, hg⟩ | ⟨c', k', f', t', x, y, z, R', v, o', q, he, hs⟩
    · exact absurd ⟨_, _, _, _, _, _, _, _, o, rfl⟩ hg
    · obtain ⟨rfl, rfl, rfl, rfl, rfl, rfl, rfl, rfl⟩ := Pt.text_inj o' o q
      exact ⟨v, he, hs w' fun a u _ hc => hc⟩
  · simp only [if_neg hP] at PR
    have hrt : rtE n N X Y m M l S cl kd f t off sp h R.length (Pt.rtF R) ≠ 0 := by unfold rtE; rw [if_pos hP]; exact hP
    obtain ⟨hE1, rfl⟩ := hE hrt
    refine core_bad cl kd f t ks off sp h kw ceil climb desc slow fast A1 A2 A3 A4 n c1 m c2 R.length c3 nw c4 E _ g R W (Lib.hid hr) (by rw [hE1]; simpa using hrt) (by simpa using hP) (Lib.hid WK) (Lib.hid hT) (Lib.hid fun w1 hb => (PR w1 hb).mono fun e w' hh => hh)
-- FRAME --

set_option maxRecDepth 100000 in
theorem lifted (os : Os) (started : os.Started) (H : Type) (enc : TypeId × Value → H) :
    ReturnsInHanded {} Tryz.checked os 4 .any (fun w args => (Rows.topPlanFlownSpec.pre enc Tryz.prog Tryz.f4 [] false w args ∧ laidMetH Tryz.prog DoorV.laid w) ∧ sizedMet enc Tryz.prog Tryz.f4 (OpenSpec.ofChange Rows.topPlanFlownSpec) false w args) (Rows.topPlanFlownSpec.post enc Tryz.prog Tryz.f4 false true false false) :=
  Frame.lifted_open (C := Tryz.checked) 4 Tryz.f4 Tryz.own started (by kernel_rfl) Tryz.func4 Tryz.laidOut rfl (by kernel_rfl) 4 rfl Tryz.underlying4
      (fun ds h => by match ds, h with | [_, _, _, _], _ => rfl)
      (ChangeSpec.witness_at (enc := enc) (C := Tryz.checked) (os := os) (X := fun w _ => laidMetH Tryz.prog DoorV.laid w) false (DoorV.laidWorld os) #[.agg #[.string ⟨#[]⟩, .string ⟨#[]⟩, .string ⟨#[]⟩, .string ⟨#[]⟩, .int .i64 0, .int .i64 0, .int .i64 0, .slice none 0 0], .agg #[.slice none 0 0, .slice none 0 0], .agg #[.string ⟨#[]⟩, .int .i64 0, .int .i64 0, .int .i64 0, .int .i64 0, .int .i64 0, .int .i64 0], .slice none 0 0] 8 rfl (by kernel_rfl) (by kernel_rfl) (by kernel_rfl) (by kernel_rfl) (by kernel_rfl) (DoorV.laidWorld_met os _))
      (fun W base args ds ps hval0 hA _ hL => by
        have hval : ∀ (j : Nat) t v, Tryz.f4.params[j]? = some t → args[j]? = some v → Value.okWide Tryz.prog W .any base t v := hval0
        have hA' : DataW.TrodAll enc Tryz.prog W 0 (fun _ => true) true Tryz.f4.params.toList args.toList ds ps := hA
        clear hval0 hA
        have hA := hA'
        clear hA'
        rw [Tryz.params4] at hA hval
        obtain ⟨v0, vs0, d0, ds0, p0, q0, ea, rfl, rfl, tr0, rest0⟩ := trodAll_cons hA
        obtain ⟨v1, vs1, d1, ds1, p1, q1, rfl, rfl, rfl, tr1, rest1⟩ := trodAll_cons rest0
        obtain ⟨v2, vs2, d2, ds2, p2, q2, rfl, rfl, rfl, tr2, rest2⟩ := trodAll_cons rest1
        obtain ⟨v3, vs3, d3, ds3, p3, q3, rfl, rfl, rfl, tr3, rest3⟩ := trodAll_cons rest2
        obtain ⟨rfl, rfl, rfl⟩ := trodAll_nil rest3
        obtain rfl : args = #[v0, v1, v2, v3] := by cases args; simp_all
        clear ea
        obtain ⟨cs_p, e_p, hl_p, hc_p⟩ := Frame.arg_agg Tryz.underlying24 (k := 8) (ks := [.str, .str, .str, .str, .int, .int, .int, .sl [.str]]) (by kernel_rfl) (hval 0 _ v0 rfl rfl) tr0
        subst e_p
        obtain ⟨c_p_call, c_p_kind, c_p_from, c_p_to, c_p_off, c_p_speed, c_p_height, c_p_route, rfl⟩ : ∃ c_p_call c_p_kind c_p_from c_p_to c_p_off c_p_speed c_p_height c_p_route, cs_p = [c_p_call, c_p_kind, c_p_from, c_p_to, c_p_off, c_p_speed, c_p_height, c_p_route] := by match cs_p, hl_p with | [x0, x1, x2, x3, x4, x5, x6, x7], _ => exact ⟨x0, x1, x2, x3, x4, x5, x6, x7, rfl⟩
        have o_p_call : Frame.Okc W (.str) c_p_call := hc_p 0 (by decide) (by simp)
        obtain ⟨p_call, e_p_call, w_p_call⟩ := o_p_call.str_inv; subst e_p_call
        have o_p_kind : Frame.Okc W (.str) c_p_kind := hc_p 1 (by decide) (by simp)
        obtain ⟨p_kind, e_p_kind, w_p_kind⟩ := o_p_kind.str_inv; subst e_p_kind
        have o_p_from : Frame.Okc W (.str) c_p_from := hc_p 2 (by decide) (by simp)
        obtain ⟨p_from, e_p_from, w_p_from⟩ := o_p_from.str_inv; subst e_p_from
        have o_p_to : Frame.Okc W (.str) c_p_to := hc_p 3 (by decide) (by simp)
        obtain ⟨p_to, e_p_to, w_p_to⟩ := o_p_to.str_inv; subst e_p_to
        have o_p_off : Frame.Okc W (.int) c_p_off := hc_p 4 (by decide) (by simp)
        obtain ⟨p_off, e_p_off, w_p_off⟩ := o_p_off.int_inv; subst e_p_off
        have o_p_speed : Frame.Okc W (.int) c_p_speed := hc_p 5 (by decide) (by simp)
        obtain ⟨p_speed, e_p_speed, w_p_speed⟩ := o_p_speed.int_inv; subst e_p_speed
        have o_p_height : Frame.Okc W (.int) c_p_height := hc_p 6 (by decide) (by simp)
        obtain ⟨p_height, e_p_height, w_p_height⟩ := o_p_height.int_inv; subst e_p_height
        have o_p_route : Frame.Okc W (.sl [.str]) c_p_route := hc_p 7 (by decide) (by simp)
        obtain ⟨cs_c, e_c, hl_c, hc_c⟩ := Frame.arg_agg Tryz.underlying28 (k := 8) (ks := [.sl [.str, .int, .int], .sl [.str, .sl [.str]]]) (by kernel_rfl) (hval 1 _ v1 rfl rfl) tr1
        subst e_c
        obtain ⟨c_c_fixes, c_c_airways, rfl⟩ : ∃ c_c_fixes c_c_airways, cs_c = [c_c_fixes, c_c_airways] := by match cs_c, hl_c with | [x0, x1], _ => exact ⟨x0, x1, rfl⟩
        have o_c_fixes : Frame.Okc W (.sl [.str, .int, .int]) c_c_fixes := hc_c 0 (by decide) (by simp)
        have o_c_airways : Frame.Okc W (.sl [.str, .sl [.str]]) c_c_airways := hc_c 1 (by decide) (by simp)
        obtain ⟨cs_k, e_k, hl_k, hc_k⟩ := Frame.arg_agg Tryz.underlying45 (k := 8) (ks := [.str, .int, .int, .int, .int, .int, .int]) (by kernel_rfl) (hval 2 _ v2 rfl rfl) tr2
        subst e_k
        obtain ⟨c_k_name, c_k_wake, c_k_ceil, c_k_climb, c_k_desc, c_k_slow, c_k_fast, rfl⟩ : ∃ c_k_name c_k_wake c_k_ceil c_k_climb c_k_desc c_k_slow c_k_fast, cs_k = [c_k_name, c_k_wake, c_k_ceil, c_k_climb, c_k_desc, c_k_slow, c_k_fast] := by match cs_k, hl_k with | [x0, x1, x2, x3, x4, x5, x6], _ => exact ⟨x0, x1, x2, x3, x4, x5, x6, rfl⟩
        have o_k_name : Frame.Okc W (.str) c_k_name := hc_k 0 (by decide) (by simp)
        obtain ⟨k_name, e_k_name, w_k_name⟩ := o_k_name.str_inv; subst e_k_name
        have o_k_wake : Frame.Okc W (.int) c_k_wake := hc_k 1 (by decide) (by simp)
        obtain ⟨k_wake, e_k_wake, w_k_wake⟩ := o_k_wake.int_inv; subst e_k_wake
        have o_k_ceil : Frame.Okc W (.int) c_k_ceil := hc_k 2 (by decide) (by simp)
        obtain ⟨k_ceil, e_k_ceil, w_k_ceil⟩ := o_k_ceil.int_inv; subst e_k_ceil
        have o_k_climb : Frame.Okc W (.int) c_k_climb := hc_k 3 (by decide) (by simp)
        obtain ⟨k_climb, e_k_climb, w_k_climb⟩ := o_k_climb.int_inv; subst e_k_climb
        have o_k_desc : Frame.Okc W (.int) c_k_desc := hc_k 4 (by decide) (by simp)
        obtain ⟨k_desc, e_k_desc, w_k_desc⟩ := o_k_desc.int_inv; subst e_k_desc
        have o_k_slow : Frame.Okc W (.int) c_k_slow := hc_k 5 (by decide) (by simp)
        obtain ⟨k_slow, e_k_slow, w_k_slow⟩ := o_k_slow.int_inv; subst e_k_slow
        have o_k_fast : Frame.Okc W (.int) c_k_fast := hc_k 6 (by decide) (by simp)
        obtain ⟨k_fast, e_k_fast, w_k_fast⟩ := o_k_fast.int_inv; subst e_k_fast
        have sl_w : Frame.Okc W (.sl [.int, .int, .int, .int, .int]) v3 := by obtain ⟨a, l, c, e⟩ := okWide_slice Tryz.underlying46 (hval 3 _ v3 rfl rfl); exact Frame.arg_cell (k := 8) (by kernel_rfl) (by have e2 : v3 = .slice a l c := e; rw [e2]; rfl) tr3
        exact walk p_call p_kind p_from p_to p_off p_speed p_height c_p_route c_c_fixes c_c_airways k_name k_wake k_ceil k_climb k_desc k_slow k_fast v3 W hL w_p_call w_p_kind w_p_from w_p_to w_p_off w_p_speed w_p_height o_p_route o_c_fixes o_c_airways w_k_name w_k_wake w_k_ceil w_k_climb w_k_desc w_k_slow w_k_fast sl_w)

/-- The statement. -/
theorem row_holds : Rows.TopPlanFlownSaid :=
  OpenClaim.holds_of_wide 4 Tryz.f4 rfl rfl rfl rfl rfl rfl rfl ⟨rfl, rfl, rfl, rfl, rfl⟩ rfl rfl rfl rfl rfl (by kernel_rfl) Tryz.func4 (by kernel_rfl)
    (of_decide_eq_true (by kernel_rfl)) (by unfold Func.isWrapper; first | (rw [if_pos (by decide +kernel)]; kernel_rfl) | (rw [if_neg (by decide +kernel)]; exact ⟨rfl, rfl⟩))
    (fun os started H enc _ => lifted os started H enc)
/-- The tied card. -/
theorem proved : Rows.TopPlanFlownCardSaid :=
  Claim7.holds_tied_plain_at .later [] [.data, .data, .data, .data, .data, .data, .data, .sentinel, .sentinel, .pinned] true (true, "7ac7ee601da7e0fe0fe1f268b53c580dce1f7493a82c31b50254a54e53e4ba21") true
    row_holds (fun _ h => by cases h) (by kernel_rfl) (fun _ h => by cases h) topPlanFlown_row_tie rfl ⟨rfl, rfl⟩ (by kernel_rfl) rfl
    (fun f fn hf hfn => by
      obtain rfl : f = 4 := Option.some.inj ((show Tryz.prog.funcNamed "skyway/skywaytop.TopPlanFlown" = some 4 by kernel_rfl).symm.trans hf) |>.symm
      obtain rfl : fn = Tryz.f4 := (Option.some.inj (Tryz.func4.symm.trans hfn)).symm
      exact ⟨by kernel_rfl, fun j t ht => by
        rw [Tryz.params4] at ht
        have hall : ∀ t ∈ [24, 28, 45, 46], Tryz.prog.wantsStandIn t = false := by
          intro t ht
          simp only [List.mem_cons, List.not_mem_nil, or_false] at ht
          rcases ht with rfl | rfl | rfl | rfl <;> kernel_rfl
        exact hall t (List.mem_iff_getElem?.2 ⟨j, by simpa using ht⟩)⟩)
    (by kernel_rfl)
#print axioms proved
end TopPlanFlown
end Go.Proofs.YtdlbkpgjbjlgiaaGreatDoor

