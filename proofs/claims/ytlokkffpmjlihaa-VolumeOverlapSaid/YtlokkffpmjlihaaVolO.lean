/- volume.Overlap: what it returns. -/
import Derived.Test.YtlokkffpmjlihaaOvD
import Derived.Test.YtlokkffpmjlihaaVolH
namespace Go.Proofs.Ytlokkffpmjlihaa
open Go.RowKit
namespace Vol
open Kit Plane Poly Over
abbrev VcC (A : Option Addr) (n c : Nat) (l h E : Int) (w : World) : Prop := ∀ w1, Below w.heap.size w w1 → Calls Try.prog 54 #[.agg #[.slice A n c, .int .i64 l, .int .i64 h]] w1 fun e w' => e = .returned (.int .i64 E) ∧ Below w1.heap.size w1 w'
abbrev PoC (u v : Value) (B : Bool) (E : Int) (w : World) : Prop := ∀ w1, Below w.heap.size w w1 → Calls Try.prog 31 #[u, v] w1 fun e w' => e = .returned (.tuple #[.bool B, .int .i64 E]) ∧ Below w1.heap.size w1 w'
structure V6 (w : World) (b : Nat) (u : Value) (l h : Int) (v : Value) (l' h' : Int) : Prop where
  c0 : w.cell? ⟨b, 0, none⟩ = some u
  c1 : w.cell? ⟨b, 1, none⟩ = some (.int .i64 l)
  c2 : w.cell? ⟨b, 2, none⟩ = some (.int .i64 h)
  c3 : w.cell? ⟨b, 3, none⟩ = some v
  c4 : w.cell? ⟨b, 4, none⟩ = some (.int .i64 l')
  c5 : w.cell? ⟨b, 5, none⟩ = some (.int .i64 h')
theorem v6_new (w : World) (t : TypeId) (u : Value) (l h : Int) (v : Value) (l' h' : Int) : V6 (w.alloc (.cells #[u, .int .i64 l, .int .i64 h, v, .int .i64 l', .int .i64 h'] t)) w.heap.size u l h v l' h' := ⟨by simp, by simp, by simp, by simp, by simp, by simp⟩
theorem v6_keep {W w1 : World} (hb : Below W.heap.size W w1) {b : Nat} {u v : Value} {l h l' h' : Int} (x : V6 W b u l h v l' h') : V6 w1 b u l h v l' h' := ⟨keep hb x.c0, keep hb x.c1, keep hb x.c2, keep hb x.c3, keep hb x.c4, keep hb x.c5⟩
set_option maxRecDepth 100000 in
set_option maxHeartbeats 4000000 in
theorem volov (A B : Option Addr) (n c m d : Nat) (l1 h1 l2 h2 E F : Int) (ob R : Bool) (G : Int) (w : World) (K1 : Hid (VcC A n c l1 h1 E w)) (K2 : Hid (VcC B m d l2 h2 F w)) (O : Hid (E = 0 → F = 0 → PoC (.slice A n c) (.slice B m d) ob 0 w))
    (H1 : Hid (E ≠ 0 → R = false ∧ G = E)) (H2 : Hid (E = 0 → F ≠ 0 → R = false ∧ G = F)) (H3 : Hid (E = 0 → F = 0 → R = (ob && decide (max l1 l2 < min h1 h2)) ∧ G = 0)) :
    Calls Try.prog 30 #[.agg #[.slice A n c, .int .i64 l1, .int .i64 h1], .agg #[.slice B m d, .int .i64 l2, .int .i64 h2]] w fun e w' => e = .returned (.tuple #[.bool R, .int .i64 G]) ∧ Below w.heap.size w w' := by
  obtain ⟨w2, hw2⟩ : ∃ w2, w2 = (w.alloc (.cells #[.slice A n c, .int .i64 l1, .int .i64 h1] 48)).alloc (.cells #[.slice B m d, .int .i64 l2, .int .i64 h2] 48) := ⟨_, rfl⟩
  have W2 : Hid (Below w.heap.size w w2) := Lib.hid (by rw [hw2]; exact b_alloc (b_alloc (Below.refl _ _) _) _)
  have PA : Hid (V3 w2 w.heap.size (.slice A n c) l1 h1) := Lib.hid (by rw [hw2]; exact v3_keep (b_alloc (Below.refl _ _) _) (v3_new w _ _ l1 h1))
  have PB : Hid (V3 w2 (w.heap.size + 1) (.slice B m d) l2 h2) := Lib.hid (by
    have h := v3_new (w.alloc (.cells #[.slice A n c, .int .i64 l1, .int .i64 h1] 48)) 48 (.slice B m d) l2 h2
    rw [World.size_alloc] at h; rw [hw2]; exact h)
  have HW2 := Lib.hid hw2; clear hw2
  go_enter Try.func30, Try.ntmps30
  go_wp2_with fail
  rw [← HW2.out]
  obtain ⟨w3, hw3⟩ : ∃ w3, w3 = w2.alloc (.cells #[.slice A n c, .int .i64 l1, .int .i64 h1, .slice B m d, .int .i64 l2, .int .i64 h2] 48) := ⟨_, rfl⟩
  obtain ⟨g, hg⟩ : ∃ g, g = w.heap.size + 1 + 1 := ⟨_, rfl⟩
  have hsz : w2.heap.size = g := by rw [hg, HW2.out, World.size_alloc, World.size_alloc]
  have X3 : Hid (V6 w3 g (.slice A n c) l1 h1 (.slice B m d) l2 h2) := Lib.hid (by rw [hw3, ← hsz]; exact v6_new _ _ _ _ _ _ _ _)
  have W3 : Hid (Below w.heap.size w w3) := Lib.hid (by rw [hw3]; exact b_alloc W2.out _)
  have A3 : Hid (V3 w3 w.heap.size (.slice A n c) l1 h1) := Lib.hid (by rw [hw3]; exact v3_keep (b_alloc (Below.refl _ _) _) PA.out)
  have B3 : Hid (V3 w3 (w.heap.size + 1) (.slice B m d) l2 h2) := Lib.hid (by rw [hw3]; exact v3_keep (b_alloc (Below.refl _ _) _) PB.out)
  rw [← hw3, ← hg]
  clear hsz
  clear hw3 hg PA PB W2 HW2
  go_loopw [15] (fun s wr => (s = .int .i64 0 ∨ (s = .int .i64 1 ∧ E = 0) ∨ (s = .int .i64 2 ∧ E = 0 ∧ F = 0)) ∧ Below w3.heap.size w3 wr) (fun s _ => 2 - (intOf s).toNat)
  case atStart => exact ⟨Or.inl rfl, Below.refl _ _⟩
  case round =>
    obtain ⟨hs, hbl⟩ := hrel
    have HB := Lib.hid hbl; have W4 := Lib.hid (b_next W3.out hbl)
    rcases hs with rfl | ⟨rfl, hE⟩ | ⟨rfl, hE, hF⟩
    · obtain ⟨x0, x1, x2, x3, x4, x5⟩ := v6_keep hbl X3.out
      have al := b_alloc (Below.refl wr.heap.size wr) (.cells #[.slice A n c, .int .i64 l1, .int .i64 h1] 48)
      have W5 := Lib.hid (b_next W4.out al); have HB5 := Lib.hid (b_next HB.out al)
      clear hbl al
      go_wp2_with fail
      (with_reducible refine (K1.out _ W5.out).mono ?_); rintro e w6 ⟨rfl, hb⟩
      have W6 := Lib.hid (b_next W5.out hb); have HB6 := Lib.hid (b_next HB5.out hb); clear hb x0 x1 x2 x3 x4 x5
      by_cases hE : E = 0
      · subst hE
        go_wp2_with fail
        exact ⟨⟨Or.inr (Or.inl ⟨rfl, by first | rfl | trivial⟩), HB6.out⟩, by simp [intOf]⟩
      · have z1 : (E == 0) = false := by simp [hE]
        have z2 : (E != 0) = true := by simp [hE]
        obtain ⟨rfl, rfl⟩ := H1.out hE
        go_wp2_with fail
        all_goals (go_ret2; exact ⟨rfl, W6.out⟩)
    · obtain ⟨x0, x1, x2, x3, x4, x5⟩ := v6_keep hbl X3.out
      have al := b_alloc (Below.refl wr.heap.size wr) (.cells #[.slice B m d, .int .i64 l2, .int .i64 h2] 48)
      have W5 := Lib.hid (b_next W4.out al); have HB5 := Lib.hid (b_next HB.out al)
      have HE := Lib.hid hE
      clear hbl al hE
      go_wp2_with fail
      (with_reducible refine (K2.out _ W5.out).mono ?_); rintro e w6 ⟨rfl, hb⟩
      have W6 := Lib.hid (b_next W5.out hb); have HB6 := Lib.hid (b_next HB5.out hb); clear hb x0 x1 x2 x3 x4 x5
      by_cases hF : F = 0
      · have HF := Lib.hid hF
        subst hF
        go_wp2_with fail
        exact ⟨⟨Or.inr (Or.inr ⟨rfl, HE.out, by first | rfl | trivial⟩), HB6.out⟩, by simp [intOf]⟩
      · have z1 : (F == 0) = false := by simp [hF]
        have z2 : (F != 0) = true := by simp [hF]
        obtain ⟨rfl, rfl⟩ := H2.out HE.out hF
        go_wp2_with fail
        all_goals (go_ret2; exact ⟨rfl, W6.out⟩)
    · have OO := Lib.hid (O.out hE hF)
      obtain ⟨hR, rfl⟩ := H3.out hE hF
      have HR := Lib.hid hR
      have A4 := Lib.hid (v3_keep hbl A3.out); have B4 := Lib.hid (v3_keep hbl B3.out)
      obtain ⟨a0, a1, a2⟩ := A4.out
      obtain ⟨b0, b1, b2⟩ := B4.out
      clear hR hE hF hbl
      go_wp2_with fail
      (with_reducible refine (OO.out _ W4.out).mono ?_); rintro e w6 ⟨rfl, hb⟩
      have W6 := Lib.hid (b_next W4.out hb); have A5 := Lib.hid (v3_keep hb A4.out); have B5 := Lib.hid (v3_keep hb B4.out)
      clear hb a0 a1 a2 b0 b1 b2
      obtain ⟨a0, a1, a2⟩ := A5.out
      obtain ⟨b0, b1, b2⟩ := B5.out
      cases ob with
      | false =>
        have e := HR.out
        rw [Bool.false_and] at e
        subst e
        go_wp2_with fail
        all_goals (go_ret2; exact ⟨rfl, W6.out⟩)
      | true =>
        have e := HR.out
        rw [Bool.true_and] at e
        subst e
        clear HR
        go_wp2_with fail
        all_goals (go_ret2; exact ⟨by first | rfl | exact ret2 (by rw [decide_eq_decide]) | exact ret2 (by grind) | (trace_state; sorry), W6.out⟩)
/-- volume.Overlap's answer. -/
def voR (n : Nat) (X Y : Nat → Int) (l1 h1 : Int) (m : Nat) (U V : Nat → Int) (l2 h2 : Int) (ob : Bool) : Bool × Int :=
  if vck (pck n X Y) l1 h1 ≠ 0 then (false, vck (pck n X Y) l1 h1) else if vck (pck m U V) l2 h2 ≠ 0 then (false, vck (pck m U V) l2 h2) else (ob && decide (max l1 l2 < min h1 h2), 0)
theorem vck_ok {E l h : Int} (hv : vck E l h = 0) : E = 0 ∧ l < h := by
  unfold vck at hv
  by_cases hE : E = 0
  · rw [if_neg (fun h => h hE)] at hv
    refine ⟨hE, ?_⟩
    split at hv
    · cases hv
    · omega
  · rw [if_pos hE] at hv; exact absurd hv hE
theorem voC {u v : Value} {n m : Nat} {X Y U V : Nat → Int} {w : World} (hu : QV w u n X Y) (hv : QV w v m U V) (l1 h1 l2 h2 : Int) {B1 B2 : Bool} (e1 : B1 = true ↔ EntD n X Y m U V) (e2 : B2 = true ↔ EntD m U V n X Y) :
    Calls Try.prog 30 #[.agg #[u, .int .i64 l1, .int .i64 h1], .agg #[v, .int .i64 l2, .int .i64 h2]] w fun e w' => e = .returned (.tuple #[.bool (voR n X Y l1 h1 m U V l2 h2 (ovR n X Y m U V B1 B2).1).1, .int .i64 (voR n X Y l1 h1 m U V l2 h2 (ovR n X Y m U V B1 B2).1).2]) ∧ Below w.heap.size w w' := by
  obtain ⟨A, c, eu, -, -⟩ := qv_slice hu
  obtain ⟨B, d, ev, -, -⟩ := qv_slice hv
  subst eu ev
  refine volov A B n c m d l1 h1 l2 h2 (vck (pck n X Y) l1 h1) (vck (pck m U V) l2 h2) (ovR n X Y m U V B1 B2).1 _ _ w (Lib.hid fun w1 hb => vcheck A n c _ l1 h1 w1 (Lib.hid (checkC (qv_keep hb hu)))) (Lib.hid fun w1 hb => vcheck B m d _ l2 h2 w1 (Lib.hid (checkC (qv_keep hb hv)))) (Lib.hid fun hE hF w1 hb => ?_) (Lib.hid fun hE => ?_) (Lib.hid fun hE hF => ?_) (Lib.hid fun hE hF => ?_)
  · have hc := ov_full (qv_keep hb hu) (qv_keep hb hv) e1 e2
    have z : (ovR n X Y m U V B1 B2).2 = 0 := by
      unfold ovR
      rw [if_neg (fun h => h (vck_ok hE).1), if_neg (fun h => h (vck_ok hF).1)]
    rw [z] at hc; exact hc
  · unfold voR; rw [if_pos hE]; exact ⟨rfl, rfl⟩
  · unfold voR; rw [if_neg (fun h => h hE), if_pos hF]; exact ⟨rfl, rfl⟩
  · unfold voR; rw [if_neg (fun h => h hE), if_neg (fun h => h hF)]; exact ⟨rfl, rfl⟩
end Vol
end Go.Proofs.Ytlokkffpmjlihaa
