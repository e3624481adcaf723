/- wind.Ground: what it returns. -/
import Derived.Test.YtkapllakofndlaaDoorWindA
import Derived.Test.YtkapllakofndlaaDoorOfW
import Derived.Test.YtkapllakofndlaaDoorNum
namespace Go.Proofs.YtkapllakofndlaaDoor
open Go.RowKit
namespace Wind
open Kit Ang
theorem size_w (n : Int) (w : World) (h0 : -1000000000 ≤ n) (h1 : n ≤ 1000000000) : Calls Tryd.prog 40 #[.int .i64 n] w fun e w' => e = .returned (.int .i64 (max n (-n))) ∧ w = w' := by
  go_enter Tryd.func40, Tryd.ntmps40
  go_wp2
  all_goals (go_ret; exact ⟨by first | rfl | exact Kit.ret1 (by omega), rfl⟩)
/-- The band's own check, as a slice of one. -/
theorem one_wv {w : World} {b : Nat} {l h x y e : Int} (n : N5 w b 0 l h x y e) : WV w (.slice (some ⟨b, 0, none⟩) 1 1) 1 (fun _ => l) (fun _ => h) (fun _ => x) (fun _ => y) (fun _ => e) :=
  Or.inr ⟨Nat.one_pos, b, 0, 1, rfl, Nat.le_refl _, by decide, fun k hk => by
    have e : k = 0 := by omega
    subst e; exact n⟩
/-- wind.Check's error of one band. -/
def w1E (l h x y e : Int) : Int := werr (fun _ => l) (fun _ => h) (fun _ => x) (fun _ => y) (fun _ => e) 0
theorem one_check {w : World} {b : Nat} {l h x y e : Int} (n : N5 w b 0 l h x y e) : Calls Tryd.prog 39 #[.slice (some ⟨b, 0, none⟩) 1 1] w fun ed w' => ed = .returned (.int .i64 (w1E l h x y e)) ∧ Below w.heap.size w w' := by
  have c := checkC (one_wv n) w (Below.refl _ _)
  have e2 : wck (fun _ => l) (fun _ => h) (fun _ => x) (fun _ => y) (fun _ => e) 1 = w1E l h x y e := by
    unfold wck; rw [if_neg (by decide)]; exact wchk_step rfl
  rw [e2] at c
  exact c
set_option maxRecDepth 100000 in
set_option maxHeartbeats 1000000 in
theorem ground_bad (sp hd l h x y e E : Int) (w : World) (hE : w1E l h x y e = E) (_hE1 : (E == 0) = false) (hE2 : (E != 0) = true) :
    Calls Tryd.prog 22 #[.int .i64 sp, .int .i64 hd, band l h x y e] w fun ed w' => ed = .returned (.tuple #[.int .i64 0, .int .i64 0, .int .i64 E]) ∧ Below w.heap.size w w' := by
  have HE := Lib.hid hE; clear hE
  obtain ⟨w1, hw1⟩ : ∃ w1, w1 = w.alloc (.cells #[.int .i64 l, .int .i64 h, .int .i64 x, .int .i64 y, .int .i64 e] 38) := ⟨_, rfl⟩
  obtain ⟨w2, hw2⟩ : ∃ w2, w2 = w1.alloc (.cells #[.int .i64 l, .int .i64 h, .int .i64 x, .int .i64 y, .int .i64 e] 38) := ⟨_, rfl⟩
  have N2 : Hid (N5 w2 (w.heap.size + 1) 0 l h x y e) := Lib.hid (by
    have q := n5_new w1 38 l h x y e
    rw [← hw2, hw1, World.size_alloc] at q; exact q)
  have W2 : Hid (Below w.heap.size w w2) := Lib.hid (by rw [hw2, hw1]; exact b_alloc (b_alloc (Below.refl _ _) _) _)
  have HW : Hid (w2 = (w.alloc (.cells #[.int .i64 l, .int .i64 h, .int .i64 x, .int .i64 y, .int .i64 e] 38)).alloc (.cells #[.int .i64 l, .int .i64 h, .int .i64 x, .int .i64 y, .int .i64 e] 38)) := Lib.hid (by rw [hw2, hw1])
  have CK := Lib.hid (one_check N2.out)
  rw [HE.out] at CK
  clear hw1 hw2
  go_enter Tryd.func22, Tryd.ntmps22
  go_wp2_with fail
  rw [← HW.out]
  (with_reducible refine CK.out.mono ?_); rintro ed w3 ⟨rfl, hb⟩
  have W3 := Lib.hid (b_next W2.out hb); clear hb
  go_wp2_with fail
  refine bodyPost_ret (v := .tuple #[.int .i64 0, .int .i64 0, .int .i64 E]) (by simp [results, Tryd.results22, go_sem]) rfl ⟨rfl, W3.out⟩
set_option maxRecDepth 100000 in
set_option maxHeartbeats 1000000 in
theorem ground_range (sp hd l h x y e : Int) (w : World) (hE : w1E l h x y e = 0) (hs : sp < 1 ∨ 400 < sp) :
    Calls Tryd.prog 22 #[.int .i64 sp, .int .i64 hd, band l h x y e] w fun ed w' => ed = .returned (.tuple #[.int .i64 0, .int .i64 0, .int .i64 4]) ∧ Below w.heap.size w w' := by
  have HE := Lib.hid hE; clear hE
  obtain ⟨w1, hw1⟩ : ∃ w1, w1 = w.alloc (.cells #[.int .i64 l, .int .i64 h, .int .i64 x, .int .i64 y, .int .i64 e] 38) := ⟨_, rfl⟩
  obtain ⟨w2, hw2⟩ : ∃ w2, w2 = w1.alloc (.cells #[.int .i64 l, .int .i64 h, .int .i64 x, .int .i64 y, .int .i64 e] 38) := ⟨_, rfl⟩
  have N2 : Hid (N5 w2 (w.heap.size + 1) 0 l h x y e) := Lib.hid (by
    have q := n5_new w1 38 l h x y e
    rw [← hw2, hw1, World.size_alloc] at q; exact q)
  have W2 : Hid (Below w.heap.size w w2) := Lib.hid (by rw [hw2, hw1]; exact b_alloc (b_alloc (Below.refl _ _) _) _)
  have HW : Hid (w2 = (w.alloc (.cells #[.int .i64 l, .int .i64 h, .int .i64 x, .int .i64 y, .int .i64 e] 38)).alloc (.cells #[.int .i64 l, .int .i64 h, .int .i64 x, .int .i64 y, .int .i64 e] 38)) := Lib.hid (by rw [hw2, hw1])
  have CK := Lib.hid (one_check N2.out)
  clear hw1 hw2
  rw [HE.out] at CK
  go_enter Tryd.func22, Tryd.ntmps22
  go_wp2_with fail
  rw [← HW.out]
  (with_reducible refine CK.out.mono ?_); rintro ed w3 ⟨rfl, hb⟩
  have W3 := Lib.hid (b_next W2.out hb); clear hb
  go_wp2_with fail
  all_goals first
    | (exfalso; omega)
    | (refine bodyPost_ret (v := .tuple #[.int .i64 0, .int .i64 0, .int .i64 4]) (by simp [results, Tryd.results22, go_sem]) rfl ⟨rfl, W3.out⟩)
theorem size_b (n : Int) (h0 : -1000000000 ≤ n) (h1 : n ≤ 1000000000) (w : World) : Calls Tryd.prog 40 #[.int .i64 n] w fun e w' => e = .returned (.int .i64 (max n (-n))) ∧ Below w.heap.size w w' :=
  (size_w n w h0 h1).mono fun _ _ ⟨he, hw⟩ => ⟨he, hw ▸ Below.refl _ _⟩
set_option maxRecDepth 100000 in
set_option maxHeartbeats 2000000 in
theorem ground_w (sp hd l h x y e sx sy z1 z2 P1 P2 FV lo hi : Int) (w : World) (hE : w1E l h x y e = 0) (hs : 1 ≤ sp ∧ sp ≤ 400)
    (SX : Hid (∀ w1, Below w.heap.size w w1 → Calls Tryd.prog 14 #[.int .i64 hd] w1 fun ed w' => ed = .returned (.int .i64 sx) ∧ w1 = w')) (SY : Hid (∀ w1, Below w.heap.size w w1 → Calls Tryd.prog 15 #[.int .i64 hd] w1 fun ed w' => ed = .returned (.int .i64 sy) ∧ w1 = w'))
    (Z1 : Hid (∀ w1, Calls Tryd.prog 40 #[.int .i64 sx] w1 fun ed w' => ed = .returned (.int .i64 z1) ∧ Below w1.heap.size w1 w')) (Z2 : Hid (∀ w1, Calls Tryd.prog 40 #[.int .i64 sy] w1 fun ed w' => ed = .returned (.int .i64 z2) ∧ Below w1.heap.size w1 w'))
    (bz : (0 ≤ z1 ∧ z1 ≤ 16384) ∧ (0 ≤ z2 ∧ z2 ≤ 16384)) (e1 : x * sx = P1) (e2 : y * sy = P2) (e3 : e * (z1 + z2) = FV) (b1 : -10000000 ≤ P1 ∧ P1 ≤ 10000000) (b2 : -10000000 ≤ P2 ∧ P2 ≤ 10000000) (b3 : 0 ≤ FV ∧ FV ≤ 10000000)
    (DL : Hid (∀ w1, Calls Tryd.prog 41 #[.int .i64 (P1 + P2 - FV), .int .i64 16384] w1 fun ed w' => ed = .returned (.tuple #[.int .i64 lo, .int .i64 0]) ∧ w1 = w')) (DU : Hid (∀ w1, Calls Tryd.prog 42 #[.int .i64 (P1 + P2 + FV), .int .i64 16384] w1 fun ed w' => ed = .returned (.tuple #[.int .i64 hi, .int .i64 0]) ∧ w1 = w'))
    (bl : -10000 ≤ lo ∧ lo ≤ 10000) (bh : -10000 ≤ hi ∧ hi ≤ 10000) :
    Calls Tryd.prog 22 #[.int .i64 sp, .int .i64 hd, band l h x y e] w fun ed w' => ed = .returned (.tuple #[.int .i64 (max 1 (sp + lo)), .int .i64 (max 1 (sp + hi)), .int .i64 0]) ∧ Below w.heap.size w w' := by
  have HE := Lib.hid hE; clear hE
  obtain ⟨w1, hw1⟩ : ∃ w1, w1 = w.alloc (.cells #[.int .i64 l, .int .i64 h, .int .i64 x, .int .i64 y, .int .i64 e] 38) := ⟨_, rfl⟩
  obtain ⟨w2, hw2⟩ : ∃ w2, w2 = w1.alloc (.cells #[.int .i64 l, .int .i64 h, .int .i64 x, .int .i64 y, .int .i64 e] 38) := ⟨_, rfl⟩
  have N2 : Hid (N5 w2 (w.heap.size + 1) 0 l h x y e) := Lib.hid (by
    have q := n5_new w1 38 l h x y e
    rw [← hw2, hw1, World.size_alloc] at q; exact q)
  have W2 : Hid (Below w.heap.size w w2) := Lib.hid (by rw [hw2, hw1]; exact b_alloc (b_alloc (Below.refl _ _) _) _)
  have HW : Hid (w2 = (w.alloc (.cells #[.int .i64 l, .int .i64 h, .int .i64 x, .int .i64 y, .int .i64 e] 38)).alloc (.cells #[.int .i64 l, .int .i64 h, .int .i64 x, .int .i64 y, .int .i64 e] 38)) := Lib.hid (by rw [hw2, hw1])
  have CK := Lib.hid (one_check N2.out)
  clear hw1 hw2
  rw [HE.out] at CK
  have B2 : Hid (N5 w2 w.heap.size 0 l h x y e) := Lib.hid (by rw [HW.out]; exact n5_keep (b_alloc (Below.refl _ _) _) (n5_new w _ l h x y e))
  have u1 : IntKind.i64.wrap P1 = P1 := IntWalk.i64_in _ (by omega)
  have u2 : IntKind.i64.wrap P2 = P2 := IntWalk.i64_in _ (by omega)
  have u3 : IntKind.i64.wrap (P1 + P2) = P1 + P2 := IntWalk.i64_in _ (by omega)
  have u4 : IntKind.i64.wrap (z1 + z2) = z1 + z2 := IntWalk.i64_in _ (by omega)
  have u5 : IntKind.i64.wrap FV = FV := IntWalk.i64_in _ (by omega)
  have g1 : ¬ sp < 1 := by omega
  have g2 : ¬ 400 < sp := by omega
  have HU := Lib.hid (And.intro u1 (And.intro u2 (And.intro u3 (And.intro u4 (And.intro u5 (And.intro e1 (And.intro e2 e3)))))))
  clear u1 u2 u3 u4 u5 e1 e2 e3
  go_enter Tryd.func22, Tryd.ntmps22
  go_wp2_with fail
  rw [← HW.out]
  (with_reducible refine CK.out.mono ?_); rintro ed w3 ⟨rfl, hb⟩
  have W3 := Lib.hid (b_next W2.out hb); have B3 := Lib.hid (n5_keep hb B2.out); clear hb
  go_wp2_with fail
  (with_reducible refine (SX.out _ W3.out).mono ?_); rintro ed v ⟨rfl, rfl⟩
  go_wp2_with fail
  (with_reducible refine (SY.out _ W3.out).mono ?_); rintro ed v ⟨rfl, rfl⟩
  obtain ⟨u1, u2, u3, u4, u5, e1, e2, e3⟩ := HU.out
  go_wp2_with fail
  refine d_region (by kernel_rfl) (by kernel_rfl) ?_
  repeat
    first
      | (refine d_plain (by with_reducible rfl) ?_; apply Exists.intro; refine ⟨fun wq hc hq => ?_, ?_⟩)
      | (refine d_on (by with_reducible rfl) (by rfl) (by with_reducible rfl) ?_; apply Exists.intro; refine ⟨fun wq hc hq => ?_, ?_⟩)
      | (refine d_off (by with_reducible rfl) (by rfl) (by rfl) ?_)
      | (refine d_void (by with_reducible rfl) (by rfl) ?_)
    try any_goals
      (obtain ⟨q0, q1, q2, q3, q4⟩ := n5_keep (cls hq) B3.out; rw [Nat.zero_add] at q1 q2 q3 q4; clear hc
       go_simp
       first
         | rfl
         | (go_at_call 40; with_reducible exact call_below hq (Z1.out _))
         | (go_at_call 40; with_reducible exact call_below hq (Z2.out _)))
    simp only [Act.put, List.setIfInBounds_toArray, List.set_cons_zero, List.set_cons_succ]
  refine d_nil ?_
  intro w7 hb7
  have W7 := Lib.hid (b_next W3.out hb7); clear hb7 u1 u2 u3 u4 u5 e1 e2 e3
  go_wp2_with fail
  (with_reducible refine (DL.out _).mono ?_); rintro ed v ⟨rfl, rfl⟩
  go_wp2_with fail
  (with_reducible refine (DU.out _).mono ?_); rintro ed v ⟨rfl, rfl⟩
  go_wp2_with fail
  all_goals (refine bodyPost_ret (v := .tuple #[.int .i64 (max 1 (sp + lo)), .int .i64 (max 1 (sp + hi)), .int .i64 0]) (by simp [results, Tryd.results22, go_sem] <;> omega) rfl ⟨rfl, W7.out⟩)
end Wind
end Go.Proofs.YtkapllakofndlaaDoor
