/- Joined texts: WindG, WindG2, WindL, WindP, WindM. -/
import Derived.Test.YtmkglhoahdlogaaGreatDoorJ14
import Derived.Test.YtmkglhoahdlogaaGreatDoorOfW
import Derived.Test.YtmkglhoahdlogaaGreatDoorJ02
import Derived.Test.YtmkglhoahdlogaaGreatDoorJ03
namespace Go.Proofs.YtmkglhoahdlogaaGreatDoor
open Go.RowKit
namespace Wind
open Kit Ang
theorem size_w (n : Int) (w : World) (h0 : -1000000000 ≤ n) (h1 : n ≤ 1000000000) : Calls Tryz.prog 115 #[.int .i64 n] w fun e w' => e = .returned (.int .i64 (max n (-n))) ∧ w = w' := by
  go_enter Tryz.func115, Tryz.ntmps115
  go_wp2
  all_goals (go_ret; exact ⟨by first | rfl | exact Kit.ret1 (by omega), rfl⟩)
/-- The band's own check, as a slice of one. -/
theorem one_wv {w : World} {b : Nat} {l h x y e : Int} (n : N5 w b 0 l h x y e) : WV w (.slice (some ⟨b, 0, none⟩) 1 1) 1 (fun _ => l) (fun _ => h) (fun _ => x) (fun _ => y) (fun _ => e) :=
  Or.inr ⟨Nat.one_pos, b, 0, 1, rfl, Nat.le_refl _, by decide, fun k hk => by
    have e : k = 0 := by omega
    subst e; exact n⟩
/-- wind.Check's error of one band. -/
def w1E (l h x y e : Int) : Int := werr (fun _ => l) (fun _ => h) (fun _ => x) (fun _ => y) (fun _ => e) 0
theorem one_check {w : World} {b : Nat} {l h x y e : Int} (n : N5 w b 0 l h x y e) : Calls Tryz.prog 91 #[.slice (some ⟨b, 0, none⟩) 1 1] w fun ed w' => ed = .returned (.int .i64 (w1E l h x y e)) ∧ Below w.heap.size w w' := by
  have c := checkC (one_wv n) w (Below.refl _ _)
  have e2 : wck (fun _ => l) (fun _ => h) (fun _ => x) (fun _ => y) (fun _ => e) 1 = w1E l h x y e := by
    unfold wck; rw [if_neg (by decide)]; exact wchk_step rfl
  rw [e2] at c
  exact c
set_option maxRecDepth 100000 in
set_option maxHeartbeats 1000000 in
theorem ground_bad (sp hd l h x y e E : Int) (w : World) (hE : w1E l h x y e = E) (_hE1 : (E == 0) = false) (hE2 : (E != 0) = true) :
    Calls Tryz.prog 94 #[.int .i64 sp, .int .i64 hd, band l h x y e] w fun ed w' => ed = .returned (.tuple #[.int .i64 0, .int .i64 0, .int .i64 E]) ∧ Below w.heap.size w w' := by
  have HE := Lib.hid hE; clear hE
  obtain ⟨w1, hw1⟩ : ∃ w1, w1 = w.alloc (.cells #[.int .i64 l, .int .i64 h, .int .i64 x, .int .i64 y, .int .i64 e] 158) := ⟨_, rfl⟩
  obtain ⟨w2, hw2⟩ : ∃ w2, w2 = w1.alloc (.cells #[.int .i64 l, .int .i64 h, .int .i64 x, .int .i64 y, .int .i64 e] 158) := ⟨_, rfl⟩
  have N2 : Hid (N5 w2 (w.heap.size + 1) 0 l h x y e) := Lib.hid (by
    have q := n5_new w1 158 l h x y e
    rw [← hw2, hw1, World.size_alloc] at q; exact q)
  have W2 : Hid (Below w.heap.size w w2) := Lib.hid (by rw [hw2, hw1]; exact b_alloc (b_alloc (Below.refl _ _) _) _)
  have HW : Hid (w2 = (w.alloc (.cells #[.int .i64 l, .int .i64 h, .int .i64 x, .int .i64 y, .int .i64 e] 158)).alloc (.cells #[.int .i64 l, .int .i64 h, .int .i64 x, .int .i64 y, .int .i64 e] 158)) := Lib.hid (by rw [hw2, hw1])
  have CK := Lib.hid (one_check N2.out)
  rw [HE.out] at CK
  clear hw1 hw2
  go_enter Tryz.func94, Tryz.ntmps94
  go_wp2_with fail
  rw [← HW.out]
  (with_reducible refine CK.out.mono ?_); rintro ed w3 ⟨rfl, hb⟩
  have W3 := Lib.hid (b_next W2.out hb); clear hb
  go_wp2_with fail
  refine bodyPost_ret (v := .tuple #[.int .i64 0, .int .i64 0, .int .i64 E]) (by simp [results, Tryz.results94, go_sem]) rfl ⟨rfl, W3.out⟩
set_option maxRecDepth 100000 in
set_option maxHeartbeats 1000000 in
theorem ground_range (sp hd l h x y e : Int) (w : World) (hE : w1E l h x y e = 0) (hs : sp < 1 ∨ 400 < sp) :
    Calls Tryz.prog 94 #[.int .i64 sp, .int .i64 hd, band l h x y e] w fun ed w' => ed = .returned (.tuple #[.int .i64 0, .int .i64 0, .int .i64 4]) ∧ Below w.heap.size w w' := by
  have HE := Lib.hid hE; clear hE
  obtain ⟨w1, hw1⟩ : ∃ w1, w1 = w.alloc (.cells #[.int .i64 l, .int .i64 h, .int .i64 x, .int .i64 y, .int .i64 e] 158) := ⟨_, rfl⟩
  obtain ⟨w2, hw2⟩ : ∃ w2, w2 = w1.alloc (.cells #[.int .i64 l, .int .i64 h, .int .i64 x, .int .i64 y, .int .i64 e] 158) := ⟨_, rfl⟩
  have N2 : Hid (N5 w2 (w.heap.size + 1) 0 l h x y e) := Lib.hid (by
    have q := n5_new w1 158 l h x y e
    rw [← hw2, hw1, World.size_alloc] at q; exact q)
  have W2 : Hid (Below w.heap.size w w2) := Lib.hid (by rw [hw2, hw1]; exact b_alloc (b_alloc (Below.refl _ _) _) _)
  have HW : Hid (w2 = (w.alloc (.cells #[.int .i64 l, .int .i64 h, .int .i64 x, .int .i64 y, .int .i64 e] 158)).alloc (.cells #[.int .i64 l, .int .i64 h, .int .i64 x, .int .i64 y, .int .i64 e] 158)) := Lib.hid (by rw [hw2, hw1])
  have CK := Lib.hid (one_check N2.out)
  clear hw1 hw2
  rw [HE.out] at CK
  go_enter Tryz.func94, Tryz.ntmps94
  go_wp2_with fail
  rw [← HW.out]
  (with_reducible refine CK.out.mono ?_); rintro ed w3 ⟨rfl, hb⟩
  have W3 := Lib.hid (b_next W2.out hb); clear hb
  go_wp2_with fail
  all_goals first
    | (exfalso; omega)
    | (refine bodyPost_ret (v := .tuple #[.int .i64 0, .int .i64 0, .int .i64 4]) (by simp [results, Tryz.results94, go_sem]) rfl ⟨rfl, W3.out⟩)
theorem size_b (n : Int) (h0 : -1000000000 ≤ n) (h1 : n ≤ 1000000000) (w : World) : Calls Tryz.prog 115 #[.int .i64 n] w fun e w' => e = .returned (.int .i64 (max n (-n))) ∧ Below w.heap.size w w' :=
  (size_w n w h0 h1).mono fun _ _ ⟨he, hw⟩ => ⟨he, hw ▸ Below.refl _ _⟩
set_option maxRecDepth 100000 in
set_option maxHeartbeats 2000000 in
theorem ground_w (sp hd l h x y e sx sy z1 z2 P1 P2 FV lo hi : Int) (w : World) (hE : w1E l h x y e = 0) (hs : 1 ≤ sp ∧ sp ≤ 400)
    (SX : Hid (∀ w1, Below w.heap.size w w1 → Calls Tryz.prog 113 #[.int .i64 hd] w1 fun ed w' => ed = .returned (.int .i64 sx) ∧ w1 = w')) (SY : Hid (∀ w1, Below w.heap.size w w1 → Calls Tryz.prog 114 #[.int .i64 hd] w1 fun ed w' => ed = .returned (.int .i64 sy) ∧ w1 = w'))
    (Z1 : Hid (∀ w1, Calls Tryz.prog 115 #[.int .i64 sx] w1 fun ed w' => ed = .returned (.int .i64 z1) ∧ Below w1.heap.size w1 w')) (Z2 : Hid (∀ w1, Calls Tryz.prog 115 #[.int .i64 sy] w1 fun ed w' => ed = .returned (.int .i64 z2) ∧ Below w1.heap.size w1 w'))
    (bz : (0 ≤ z1 ∧ z1 ≤ 16384) ∧ (0 ≤ z2 ∧ z2 ≤ 16384)) (e1 : x * sx = P1) (e2 : y * sy = P2) (e3 : e * (z1 + z2) = FV) (b1 : -10000000 ≤ P1 ∧ P1 ≤ 10000000) (b2 : -10000000 ≤ P2 ∧ P2 ≤ 10000000) (b3 : 0 ≤ FV ∧ FV ≤ 10000000)
    (DL : Hid (∀ w1, Calls Tryz.prog 66 #[.int .i64 (P1 + P2 - FV), .int .i64 16384] w1 fun ed w' => ed = .returned (.tuple #[.int .i64 lo, .int .i64 0]) ∧ w1 = w')) (DU : Hid (∀ w1, Calls Tryz.prog 57 #[.int .i64 (P1 + P2 + FV), .int .i64 16384] w1 fun ed w' => ed = .returned (.tuple #[.int .i64 hi, .int .i64 0]) ∧ w1 = w'))
    (bl : -10000 ≤ lo ∧ lo ≤ 10000) (bh : -10000 ≤ hi ∧ hi ≤ 10000) :
    Calls Tryz.prog 94 #[.int .i64 sp, .int .i64 hd, band l h x y e] w fun ed w' => ed = .returned (.tuple #[.int .i64 (max 1 (sp + lo)), .int .i64 (max 1 (sp + hi)), .int .i64 0]) ∧ Below w.heap.size w w' := by
  have HE := Lib.hid hE; clear hE
  obtain ⟨w1, hw1⟩ : ∃ w1, w1 = w.alloc (.cells #[.int .i64 l, .int .i64 h, .int .i64 x, .int .i64 y, .int .i64 e] 158) := ⟨_, rfl⟩
  obtain ⟨w2, hw2⟩ : ∃ w2, w2 = w1.alloc (.cells #[.int .i64 l, .int .i64 h, .int .i64 x, .int .i64 y, .int .i64 e] 158) := ⟨_, rfl⟩
  have N2 : Hid (N5 w2 (w.heap.size + 1) 0 l h x y e) := Lib.hid (by
    have q := n5_new w1 158 l h x y e
    rw [← hw2, hw1, World.size_alloc] at q; exact q)
  have W2 : Hid (Below w.heap.size w w2) := Lib.hid (by rw [hw2, hw1]; exact b_alloc (b_alloc (Below.refl _ _) _) _)
  have HW : Hid (w2 = (w.alloc (.cells #[.int .i64 l, .int .i64 h, .int .i64 x, .int .i64 y, .int .i64 e] 158)).alloc (.cells #[.int .i64 l, .int .i64 h, .int .i64 x, .int .i64 y, .int .i64 e] 158)) := Lib.hid (by rw [hw2, hw1])
  have CK := Lib.hid (one_check N2.out)
  clear hw1 hw2
  rw [HE.out] at CK
  have B2 : Hid (N5 w2 w.heap.size 0 l h x y e) := Lib.hid (by rw [HW.out]; exact n5_keep (b_alloc (Below.refl _ _) _) (n5_new w _ l h x y e))
  have u1 : IntKind.i64.wrap P1 = P1 := IntWalk.i64_in _ (by omega)
  have u2 : IntKind.i64.wrap P2 = P2 := IntWalk.i64_in _ (by omega)
  have u3 : IntKind.i64.wrap (P1 + P2) = P1 + P2 := IntWalk.i64_in _ (by omega)
  have u4 : IntKind.i64.wrap (z1 + z2) = z1 + z2 := IntWalk.i64_in _ (by omega)
  have u5 : IntKind.i64.wrap FV = FV := IntWalk.i64_in _ (by omega)
  have g1 : ¬ sp < 1 := by omega
  have g2 : ¬ 400 < sp := by omega
  have HU := Lib.hid (And.intro u1 (And.intro u2 (And.intro u3 (And.intro u4 (And.intro u5 (And.intro e1 (And.intro e2 e3)))))))
  clear u1 u2 u3 u4 u5 e1 e2 e3
  go_enter Tryz.func94, Tryz.ntmps94
  go_wp2_with fail
  rw [← HW.out]
  (with_reducible refine CK.out.mono ?_); rintro ed w3 ⟨rfl, hb⟩
  have W3 := Lib.hid (b_next W2.out hb); have B3 := Lib.hid (n5_keep hb B2.out); clear hb
  go_wp2_with fail
  (with_reducible refine (SX.out _ W3.out).mono ?_); rintro ed v ⟨rfl, rfl⟩
  go_wp2_with fail
  (with_reducible refine (SY.out _ W3.out).mono ?_); rintro ed v ⟨rfl, rfl⟩
  obtain ⟨u1, u2, u3, u4, u5, e1, e2, e3⟩ := HU.out
  go_wp2_with fail
  refine d_region (by kernel_rfl) (by kernel_rfl) ?_
  repeat
    first
      | (refine d_plain (by with_reducible rfl) ?_; apply Exists.intro; refine ⟨fun wq hc hq => ?_, ?_⟩)
      | (refine d_on (by with_reducible rfl) (by rfl) (by with_reducible rfl) ?_; apply Exists.intro; refine ⟨fun wq hc hq => ?_, ?_⟩)
      | (refine d_off (by with_reducible rfl) (by rfl) (by rfl) ?_)
      | (refine d_void (by with_reducible rfl) (by rfl) ?_)
    try any_goals
      (obtain ⟨q0, q1, q2, q3, q4⟩ := n5_keep (cls hq) B3.out; rw [Nat.zero_add] at q1 q2 q3 q4; clear hc
       go_simp
       first
         | rfl
         | (go_at_call 115; with_reducible exact call_below hq (Z1.out _))
         | (go_at_call 115; with_reducible exact call_below hq (Z2.out _)))
    simp only [Act.put, List.setIfInBounds_toArray, List.set_cons_zero, List.set_cons_succ]
  refine d_nil ?_
  intro w7 hb7
  have W7 := Lib.hid (b_next W3.out hb7); clear hb7 u1 u2 u3 u4 u5 e1 e2 e3
  go_wp2_with fail
  (with_reducible refine (DL.out _).mono ?_); rintro ed v ⟨rfl, rfl⟩
  go_wp2_with fail
  (with_reducible refine (DU.out _).mono ?_); rintro ed v ⟨rfl, rfl⟩
  go_wp2_with fail
  all_goals (refine bodyPost_ret (v := .tuple #[.int .i64 (max 1 (sp + lo)), .int .i64 (max 1 (sp + hi)), .int .i64 0]) (by simp [results, Tryz.results94, go_sem] <;> omega) rfl ⟨rfl, W7.out⟩)
end Wind
end Go.Proofs.YtmkglhoahdlogaaGreatDoor
namespace Go.Proofs.YtmkglhoahdlogaaGreatDoor
open Go.RowKit
namespace Wind
open Kit Ang Num
theorem w1_ok {l h x y e : Int} (hE : w1E l h x y e = 0) : (0 ≤ l ∧ h ≤ 60001 ∧ l < h) ∧ (-150 ≤ x ∧ x ≤ 150) ∧ (-150 ≤ y ∧ y ≤ 150) ∧ (0 ≤ e ∧ e ≤ 100) := by
  unfold w1E werr outB at hE
  split at hE
  · cases hE
  · rename_i hn
    simp only [decide_eq_true_eq] at hn
    omega
theorem mulW {a s A : Int} (ha : -A ≤ a ∧ a ≤ A) (hs : -16384 ≤ s ∧ s ≤ 16384) (hA : A = 150) : -2457600 ≤ a * s ∧ a * s ≤ 2457600 := by
  subst hA
  have h1 : 0 ≤ (150 - a) * (16384 + s) := Int.mul_nonneg (by omega) (by omega)
  have h2 : 0 ≤ (150 + a) * (16384 - s) := Int.mul_nonneg (by omega) (by omega)
  have h3 : 0 ≤ (150 - a) * (16384 - s) := Int.mul_nonneg (by omega) (by omega)
  have h4 : 0 ≤ (150 + a) * (16384 + s) := Int.mul_nonneg (by omega) (by omega)
  have e1 : (150 - a) * (16384 + s) = 2457600 + 150 * s - 16384 * a - a * s := by grind
  have e2 : (150 + a) * (16384 - s) = 2457600 - 150 * s + 16384 * a - a * s := by grind
  have e3 : (150 - a) * (16384 - s) = 2457600 - 150 * s - 16384 * a + a * s := by grind
  have e4 : (150 + a) * (16384 + s) = 2457600 + 150 * s + 16384 * a + a * s := by grind
  omega
/-- The wind from behind, and how uncertain it is, both times 16384. -/
def gc (hd x y : Int) : Int := x * sn hd + y * sn (hd + 1024)
def gf (hd e : Int) : Int := e * (max (sn hd) (-sn hd) + max (sn (hd + 1024)) (-sn (hd + 1024)))
theorem gf_bd {hd e : Int} (he : 0 ≤ e ∧ e ≤ 100) : 0 ≤ gf hd e ∧ gf hd e ≤ 3276800 := by
  have b1 := sn_bd hd; have b2 := sn_bd (hd + 1024)
  unfold gf
  obtain ⟨z, hz⟩ : ∃ z, z = max (sn hd) (-sn hd) + max (sn (hd + 1024)) (-sn (hd + 1024)) := ⟨_, rfl⟩
  have bz : 0 ≤ z ∧ z ≤ 32768 := by omega
  rw [← hz]
  have h1 : 0 ≤ e * z := Int.mul_nonneg he.1 bz.1
  have h2 := Int.mul_le_mul he.2 bz.2 bz.1 (by omega)
  omega
theorem d16 (a : Int) (ha : -20000000 ≤ a ∧ a ≤ 20000000) : dde a 16384 = 0 ∧ dd a 16384 = a / 16384 ∧ -10000 ≤ du a 16384 ∧ du a 16384 ≤ 10000 := by
  have h0 : (16384 : Int) ≠ 0 := by decide
  have h1 : ¬ (a = -9223372036854775808 ∧ (16384 : Int) = -1) := by omega
  have h2 := dd_ok (a := a) h0 h1
  refine ⟨h2.2, by rw [h2.1, fd_pos (by decide)], ?_⟩
  rw [du_ok h0 h1, fd_pos (by decide)]
  split <;> omega
theorem groundC (sp hd l h x y e : Int) (w : World) (T : Tabs w) (hE : w1E l h x y e = 0) (hs : 1 ≤ sp ∧ sp ≤ 400) :
    Calls Tryz.prog 94 #[.int .i64 sp, .int .i64 hd, band l h x y e] w fun ed w' => ed = .returned (.tuple #[.int .i64 (max 1 (sp + dd (gc hd x y - gf hd e) 16384)), .int .i64 (max 1 (sp + du (gc hd x y + gf hd e) 16384)), .int .i64 0]) ∧ Below w.heap.size w w' := by
  obtain ⟨-, bx, by', be⟩ := w1_ok hE
  have b1 := sn_bd hd; have b2 := sn_bd (hd + 1024)
  have m1 := mulW bx b1 rfl
  have m2 := mulW by' b2 rfl
  have f := gf_bd (hd := hd) be
  have d1 := d16 (gc hd x y - gf hd e) (by unfold gc; omega)
  have d2 := d16 (gc hd x y + gf hd e) (by unfold gc; omega)
  exact ground_w sp hd l h x y e (sn hd) (sn (hd + 1024)) (max (sn hd) (-sn hd)) (max (sn (hd + 1024)) (-sn (hd + 1024))) _ _ (gf hd e) (dd (gc hd x y - gf hd e) 16384) (du (gc hd x y + gf hd e) 16384) w hE hs
    (Lib.hid fun w1 hb => sinA hd (tabs_keep hb T)) (Lib.hid fun w1 hb => cosA hd (tabs_keep hb T)) (Lib.hid fun w1 => size_b (sn hd) (by omega) (by omega) w1) (Lib.hid fun w1 => size_b (sn (hd + 1024)) (by omega) (by omega) w1) (by omega) rfl rfl rfl (by omega) (by omega) (by omega)
    (Lib.hid fun w1 => by have c := divDown (gc hd x y - gf hd e) 16384 w1 (by unfold gc; omega) (by omega); rw [d1.1] at c; exact c) (Lib.hid fun w1 => by have c := divUp (gc hd x y + gf hd e) 16384 w1 (by unfold gc; omega) (by omega); rw [d2.1] at c; exact c)
    (by rw [d1.2.1]; unfold gc; omega) d2.2.2
end Wind
end Go.Proofs.YtmkglhoahdlogaaGreatDoor
namespace Go.Proofs.YtmkglhoahdlogaaGreatDoor
open Go.RowKit
namespace Wind
open Kit Ang Num Plane
/-- Two points, one behind the other. -/
abbrev Q4 (w : World) (b : Nat) (ax ay bx by' : Int) : Prop := w.cell? ⟨b, 0, none⟩ = some (.int .i64 ax) ∧ w.cell? ⟨b, 1, none⟩ = some (.int .i64 ay) ∧ w.cell? ⟨b, 2, none⟩ = some (.int .i64 bx) ∧ w.cell? ⟨b, 3, none⟩ = some (.int .i64 by')
theorem q4_keep {W w1 : World} (hb : Below W.heap.size W w1) {b : Nat} {ax ay bx by' : Int} (h : Q4 W b ax ay bx by') : Q4 w1 b ax ay bx by' := ⟨keep hb h.1, keep hb h.2.1, keep hb h.2.2.1, keep hb h.2.2.2⟩
theorem q4_new (w : World) (t : TypeId) (ax ay bx by' : Int) : Q4 (w.alloc (.cells #[.int .i64 ax, .int .i64 ay, .int .i64 bx, .int .i64 by'] t)) w.heap.size ax ay bx by' := ⟨by simp, by simp, by simp, by simp⟩
set_option maxRecDepth 100000 in
set_option maxHeartbeats 4000000 in
theorem leg_bad (A : Option Addr) (n c : Nat) (sp h ax ay bx by' : Int) (w : World)
    (E : Int) (C : Hid (WkC (.slice A n c) E w)) (_hE1 : (E == 0) = false) (hE2 : (E != 0) = true) :
    Calls Tryz.prog 56 #[.slice A n c, .int .i64 sp, .int .i64 h, .agg #[.int .i64 ax, .int .i64 ay], .agg #[.int .i64 bx, .int .i64 by']] w fun e w' => e = .returned (.tuple #[.int .i64 0, .int .i64 0, .int .i64 E]) ∧ Below w.heap.size w w' := by
  have HA := Lib.hid (p2_alloc (.cells #[.int .i64 bx, .int .i64 by'] 36) (p2_new w 36 ax ay))
  have HB := Lib.hid (p2_new1 w (.cells #[.int .i64 ax, .int .i64 ay] 36) 36 bx by')
  have W0 := Lib.hid (b_alloc (b_alloc (Below.refl w.heap.size w) (.cells #[.int .i64 ax, .int .i64 ay] 36)) (.cells #[.int .i64 bx, .int .i64 by'] 36))
  go_enter Tryz.func56, Tryz.ntmps56
  go_wp2_with fail
  (with_reducible refine (C.out _ W0.out).mono ?_); rintro e w1 ⟨rfl, hb⟩
  have W1 := Lib.hid (b_next W0.out hb); have A1 := Lib.hid (p2_keep hb HA.out); have B1 := Lib.hid (p2_keep hb HB.out); clear hb HA HB W0
  obtain ⟨⟨a0, a1⟩, b0, b1⟩ := And.intro A1.out B1.out
  clear A1 B1
  go_wp2_with fail
  refine bodyPost_ret (v := .tuple #[.int .i64 0, .int .i64 0, .int .i64 E]) (by simp [results, Tryz.results56, go_sem]) rfl ⟨rfl, ?_⟩
  exact W1.out
set_option maxRecDepth 100000 in
set_option maxHeartbeats 4000000 in
theorem leg_range (A : Option Addr) (n c : Nat) (sp h ax ay bx by' : Int) (w : World)
    (C : Hid (WkC (.slice A n c) 0 w)) (hr : (sp < 1 ∨ 400 < sp) ∨ h < 0 ∨ 60000 < h) :
    Calls Tryz.prog 56 #[.slice A n c, .int .i64 sp, .int .i64 h, .agg #[.int .i64 ax, .int .i64 ay], .agg #[.int .i64 bx, .int .i64 by']] w fun e w' => e = .returned (.tuple #[.int .i64 0, .int .i64 0, .int .i64 4]) ∧ Below w.heap.size w w' := by
  have HA := Lib.hid (p2_alloc (.cells #[.int .i64 bx, .int .i64 by'] 36) (p2_new w 36 ax ay))
  have HB := Lib.hid (p2_new1 w (.cells #[.int .i64 ax, .int .i64 ay] 36) 36 bx by')
  have W0 := Lib.hid (b_alloc (b_alloc (Below.refl w.heap.size w) (.cells #[.int .i64 ax, .int .i64 ay] 36)) (.cells #[.int .i64 bx, .int .i64 by'] 36))
  go_enter Tryz.func56, Tryz.ntmps56
  go_wp2_with fail
  (with_reducible refine (C.out _ W0.out).mono ?_); rintro e w1 ⟨rfl, hb⟩
  have W1 := Lib.hid (b_next W0.out hb); have A1 := Lib.hid (p2_keep hb HA.out); have B1 := Lib.hid (p2_keep hb HB.out); clear hb HA HB W0
  obtain ⟨⟨a0, a1⟩, b0, b1⟩ := And.intro A1.out B1.out
  go_wp2_with fail
  all_goals first
    | (exfalso; omega)
    | (refine bodyPost_ret (v := .tuple #[.int .i64 0, .int .i64 0, .int .i64 4]) (by simp [results, Tryz.results56, go_sem]) rfl ⟨rfl, ?_⟩
       exact W1.out)
set_option maxRecDepth 100000 in
set_option maxHeartbeats 4000000 in
theorem leg_a (A : Option Addr) (n c : Nat) (sp h ax ay bx by' : Int) (w : World)
    (C : Hid (WkC (.slice A n c) 0 w)) (hs : 1 ≤ sp ∧ sp ≤ 400) (hh : 0 ≤ h ∧ h ≤ 60000) (KA : Hid (Chk ax ay 4)) :
    Calls Tryz.prog 56 #[.slice A n c, .int .i64 sp, .int .i64 h, .agg #[.int .i64 ax, .int .i64 ay], .agg #[.int .i64 bx, .int .i64 by']] w fun e w' => e = .returned (.tuple #[.int .i64 0, .int .i64 0, .int .i64 4]) ∧ Below w.heap.size w w' := by
  have g1 : ¬ sp < 1 := by omega
  have g2 : ¬ 400 < sp := by omega
  have g3 : ¬ h < 0 := by omega
  have g4 : ¬ 60000 < h := by omega
  have HA := Lib.hid (p2_alloc (.cells #[.int .i64 bx, .int .i64 by'] 36) (p2_new w 36 ax ay))
  have HB := Lib.hid (p2_new1 w (.cells #[.int .i64 ax, .int .i64 ay] 36) 36 bx by')
  have W0 := Lib.hid (b_alloc (b_alloc (Below.refl w.heap.size w) (.cells #[.int .i64 ax, .int .i64 ay] 36)) (.cells #[.int .i64 bx, .int .i64 by'] 36))
  go_enter Tryz.func56, Tryz.ntmps56
  go_wp2_with fail
  (with_reducible refine (C.out _ W0.out).mono ?_); rintro e w1 ⟨rfl, hb⟩
  have W1 := Lib.hid (b_next W0.out hb); have A1 := Lib.hid (p2_keep hb HA.out); have B1 := Lib.hid (p2_keep hb HB.out); clear hb HA HB W0
  obtain ⟨⟨a0, a1⟩, b0, b1⟩ := And.intro A1.out B1.out
  have W2 := Lib.hid (b_alloc W1.out (.cells #[.int .i64 ax, .int .i64 ay, .int .i64 bx, .int .i64 by'] 36))
  have A2 := Lib.hid (p2_alloc (.cells #[.int .i64 ax, .int .i64 ay, .int .i64 bx, .int .i64 by'] 36) A1.out); have B2 := Lib.hid (p2_alloc (.cells #[.int .i64 ax, .int .i64 ay, .int .i64 bx, .int .i64 by'] 36) B1.out)
  have L2 := Lib.hid (q4_new w1 36 ax ay bx by')
  go_wp2_with fail
  go_loopw [51] (fun s wr => (s = .int .i64 0) ∧ Q4 wr w1.heap.size ax ay bx by' ∧ P2 wr w.heap.size ax ay ∧ P2 wr (w.heap.size + 1) bx by' ∧ Below w.heap.size w wr) (fun s _ => 0 - (intOf s).toNat)
  case atStart => exact ⟨rfl, L2.out, A2.out, B2.out, W2.out⟩
  case round =>
    obtain ⟨rfl, ⟨q0, q1, q2, q3⟩, ⟨a0, a1⟩, ⟨b0, b1⟩, hbl⟩ := hrel
    have n1 := Lib.hid hbl; have n2 := Lib.hid (And.intro (And.intro q0 (And.intro q1 (And.intro q2 q3))) (And.intro (And.intro a0 a1) (And.intro b0 b1)))
    clear hbl
    go_wp2_with fail
    (with_reducible refine (KA.out _).mono ?_); rintro e w3 ⟨rfl, hb⟩
    have hb2 := b_alloc (Below.refl _ _) (.cells #[.int .i64 ax, .int .i64 ay] 36) |>.trans (hb.mono (by simp))
    have n3 := Lib.hid (b_next n1.out hb2); clear hb hb2
    go_wp2_with fail
    refine bodyPost_ret (v := .tuple #[.int .i64 0, .int .i64 0, .int .i64 4]) (by simp [results, Tryz.results56, go_sem]) rfl ⟨rfl, ?_⟩
    exact n3.out
set_option maxRecDepth 100000 in
set_option maxHeartbeats 4000000 in
theorem leg_b (A : Option Addr) (n c : Nat) (sp h ax ay bx by' : Int) (w : World)
    (C : Hid (WkC (.slice A n c) 0 w)) (hs : 1 ≤ sp ∧ sp ≤ 400) (hh : 0 ≤ h ∧ h ≤ 60000) (KA : Hid (Chk ax ay 0)) (KB : Hid (Chk bx by' 4)) :
    Calls Tryz.prog 56 #[.slice A n c, .int .i64 sp, .int .i64 h, .agg #[.int .i64 ax, .int .i64 ay], .agg #[.int .i64 bx, .int .i64 by']] w fun e w' => e = .returned (.tuple #[.int .i64 0, .int .i64 0, .int .i64 4]) ∧ Below w.heap.size w w' := by
  have g1 : ¬ sp < 1 := by omega
  have g2 : ¬ 400 < sp := by omega
  have g3 : ¬ h < 0 := by omega
  have g4 : ¬ 60000 < h := by omega
  have HA := Lib.hid (p2_alloc (.cells #[.int .i64 bx, .int .i64 by'] 36) (p2_new w 36 ax ay))
  have HB := Lib.hid (p2_new1 w (.cells #[.int .i64 ax, .int .i64 ay] 36) 36 bx by')
  have W0 := Lib.hid (b_alloc (b_alloc (Below.refl w.heap.size w) (.cells #[.int .i64 ax, .int .i64 ay] 36)) (.cells #[.int .i64 bx, .int .i64 by'] 36))
  go_enter Tryz.func56, Tryz.ntmps56
  go_wp2_with fail
  (with_reducible refine (C.out _ W0.out).mono ?_); rintro e w1 ⟨rfl, hb⟩
  have W1 := Lib.hid (b_next W0.out hb); have A1 := Lib.hid (p2_keep hb HA.out); have B1 := Lib.hid (p2_keep hb HB.out); clear hb HA HB W0
  obtain ⟨⟨a0, a1⟩, b0, b1⟩ := And.intro A1.out B1.out
  have W2 := Lib.hid (b_alloc W1.out (.cells #[.int .i64 ax, .int .i64 ay, .int .i64 bx, .int .i64 by'] 36))
  have A2 := Lib.hid (p2_alloc (.cells #[.int .i64 ax, .int .i64 ay, .int .i64 bx, .int .i64 by'] 36) A1.out); have B2 := Lib.hid (p2_alloc (.cells #[.int .i64 ax, .int .i64 ay, .int .i64 bx, .int .i64 by'] 36) B1.out)
  have L2 := Lib.hid (q4_new w1 36 ax ay bx by')
  go_wp2_with fail
  go_loopw [51] (fun s wr => (s = .int .i64 0 ∨ s = .int .i64 1) ∧ Q4 wr w1.heap.size ax ay bx by' ∧ P2 wr w.heap.size ax ay ∧ P2 wr (w.heap.size + 1) bx by' ∧ Below w.heap.size w wr) (fun s _ => 1 - (intOf s).toNat)
  case atStart => exact ⟨Or.inl rfl, L2.out, A2.out, B2.out, W2.out⟩
  case round =>
    obtain ⟨rfl | rfl, ⟨q0, q1, q2, q3⟩, ⟨a0, a1⟩, ⟨b0, b1⟩, hbl⟩ := hrel
    · have n1 := Lib.hid hbl; have n2 := Lib.hid (And.intro (And.intro q0 (And.intro q1 (And.intro q2 q3))) (And.intro (And.intro a0 a1) (And.intro b0 b1)))
      clear hbl
      go_wp2_with fail
      (with_reducible refine (KA.out _).mono ?_); rintro e w3 ⟨rfl, hb⟩
      have hb2 := b_alloc (Below.refl _ _) (.cells #[.int .i64 ax, .int .i64 ay] 36) |>.trans (hb.mono (by simp))
      have n3 := Lib.hid (And.intro (q4_keep hb2 n2.out.1) (And.intro (p2_keep hb2 n2.out.2.1) (And.intro (p2_keep hb2 n2.out.2.2) (b_next n1.out hb2)))); clear hb hb2
      clear q0 q1 q2 q3 a0 a1 b0 b1
      go_wp2_with fail
      go_roundw
      case rel => exact ⟨Or.inr rfl, n3.out⟩
      case measure => simp [intOf]
    · have n1 := Lib.hid hbl; have n2 := Lib.hid (And.intro (And.intro q0 (And.intro q1 (And.intro q2 q3))) (And.intro (And.intro a0 a1) (And.intro b0 b1)))
      clear hbl
      go_wp2_with fail
      (with_reducible refine (KB.out _).mono ?_); rintro e w3 ⟨rfl, hb⟩
      have hb2 := b_alloc (Below.refl _ _) (.cells #[.int .i64 bx, .int .i64 by'] 36) |>.trans (hb.mono (by simp))
      have n3 := Lib.hid (b_next n1.out hb2); clear hb hb2
      go_wp2_with fail
      refine bodyPost_ret (v := .tuple #[.int .i64 0, .int .i64 0, .int .i64 4]) (by simp [results, Tryz.results56, go_sem]) rfl ⟨rfl, ?_⟩
      exact n3.out
set_option maxRecDepth 100000 in
set_option maxHeartbeats 4000000 in
theorem leg_same (A : Option Addr) (n c : Nat) (sp h ax ay bx by' : Int) (w : World)
    (C : Hid (WkC (.slice A n c) 0 w)) (hs : 1 ≤ sp ∧ sp ≤ 400) (hh : 0 ≤ h ∧ h ≤ 60000) (KA : Hid (Chk ax ay 0)) (KB : Hid (Chk bx by' 0)) (hx : bx = ax) (hy : by' = ay) :
    Calls Tryz.prog 56 #[.slice A n c, .int .i64 sp, .int .i64 h, .agg #[.int .i64 ax, .int .i64 ay], .agg #[.int .i64 bx, .int .i64 by']] w fun e w' => e = .returned (.tuple #[.int .i64 0, .int .i64 0, .int .i64 0]) ∧ Below w.heap.size w w' := by
  subst hx hy
  have g1 : ¬ sp < 1 := by omega
  have g2 : ¬ 400 < sp := by omega
  have g3 : ¬ h < 0 := by omega
  have g4 : ¬ 60000 < h := by omega
  have HA := Lib.hid (p2_alloc (.cells #[.int .i64 bx, .int .i64 by'] 36) (p2_new w 36 bx by'))
  have HB := Lib.hid (p2_new1 w (.cells #[.int .i64 bx, .int .i64 by'] 36) 36 bx by')
  have W0 := Lib.hid (b_alloc (b_alloc (Below.refl w.heap.size w) (.cells #[.int .i64 bx, .int .i64 by'] 36)) (.cells #[.int .i64 bx, .int .i64 by'] 36))
  go_enter Tryz.func56, Tryz.ntmps56
  go_wp2_with fail
  (with_reducible refine (C.out _ W0.out).mono ?_); rintro e w1 ⟨rfl, hb⟩
  have W1 := Lib.hid (b_next W0.out hb); have A1 := Lib.hid (p2_keep hb HA.out); have B1 := Lib.hid (p2_keep hb HB.out); clear hb HA HB W0
  obtain ⟨⟨a0, a1⟩, b0, b1⟩ := And.intro A1.out B1.out
  have W2 := Lib.hid (b_alloc W1.out (.cells #[.int .i64 bx, .int .i64 by', .int .i64 bx, .int .i64 by'] 36))
  have A2 := Lib.hid (p2_alloc (.cells #[.int .i64 bx, .int .i64 by', .int .i64 bx, .int .i64 by'] 36) A1.out); have B2 := Lib.hid (p2_alloc (.cells #[.int .i64 bx, .int .i64 by', .int .i64 bx, .int .i64 by'] 36) B1.out)
  have L2 := Lib.hid (q4_new w1 36 bx by' bx by')
  go_wp2_with fail
  go_loopw [51] (fun s wr => (s = .int .i64 0 ∨ s = .int .i64 1 ∨ s = .int .i64 2) ∧ Q4 wr w1.heap.size bx by' bx by' ∧ P2 wr w.heap.size bx by' ∧ P2 wr (w.heap.size + 1) bx by' ∧ Below w.heap.size w wr) (fun s _ => 2 - (intOf s).toNat)
  case atStart => exact ⟨Or.inl rfl, L2.out, A2.out, B2.out, W2.out⟩
  case round =>
    obtain ⟨rfl | rfl | rfl, ⟨q0, q1, q2, q3⟩, ⟨a0, a1⟩, ⟨b0, b1⟩, hbl⟩ := hrel
    · have n1 := Lib.hid hbl; have n2 := Lib.hid (And.intro (And.intro q0 (And.intro q1 (And.intro q2 q3))) (And.intro (And.intro a0 a1) (And.intro b0 b1)))
      clear hbl
      go_wp2_with fail
      (with_reducible refine (KA.out _).mono ?_); rintro e w3 ⟨rfl, hb⟩
      have hb2 := b_alloc (Below.refl _ _) (.cells #[.int .i64 bx, .int .i64 by'] 36) |>.trans (hb.mono (by simp))
      have n3 := Lib.hid (And.intro (q4_keep hb2 n2.out.1) (And.intro (p2_keep hb2 n2.out.2.1) (And.intro (p2_keep hb2 n2.out.2.2) (b_next n1.out hb2)))); clear hb hb2
      clear q0 q1 q2 q3 a0 a1 b0 b1
      go_wp2_with fail
      go_roundw
      case rel => exact ⟨Or.inr (Or.inl rfl), n3.out⟩
      case measure => simp [intOf]
    · have n1 := Lib.hid hbl; have n2 := Lib.hid (And.intro (And.intro q0 (And.intro q1 (And.intro q2 q3))) (And.intro (And.intro a0 a1) (And.intro b0 b1)))
      clear hbl
      go_wp2_with fail
      (with_reducible refine (KB.out _).mono ?_); rintro e w3 ⟨rfl, hb⟩
      have hb2 := b_alloc (Below.refl _ _) (.cells #[.int .i64 bx, .int .i64 by'] 36) |>.trans (hb.mono (by simp))
      have n3 := Lib.hid (And.intro (q4_keep hb2 n2.out.1) (And.intro (p2_keep hb2 n2.out.2.1) (And.intro (p2_keep hb2 n2.out.2.2) (b_next n1.out hb2)))); clear hb hb2
      clear q0 q1 q2 q3 a0 a1 b0 b1
      go_wp2_with fail
      go_roundw
      case rel => exact ⟨Or.inr (Or.inr rfl), n3.out⟩
      case measure => simp [intOf]
    · have n1 := Lib.hid hbl; clear hbl q0 q1 q2 q3
      go_wp2_with fail
      refine bodyPost_ret (v := .tuple #[.int .i64 0, .int .i64 0, .int .i64 0]) (by simp [results, Tryz.results56, go_sem]) rfl ⟨rfl, ?_⟩
      exact n1.out
set_option maxRecDepth 100000 in
set_option maxHeartbeats 4000000 in
theorem leg_okx (A : Option Addr) (n c : Nat) (sp h ax ay bx by' : Int) (w : World)
    (l' h' x' y' e' dx dy r lo hi near far D : Int) (C : Hid (WkC (.slice A n c) 0 w)) (hs : 1 ≤ sp ∧ sp ≤ 400) (hh : 0 ≤ h ∧ h ≤ 60000) (KA : Hid (Chk ax ay 0)) (KB : Hid (Chk bx by' 0)) (hne : ¬ ax = bx)
    (SB : Hid (∀ w1, Calls Tryz.prog 81 #[.agg #[.int .i64 bx, .int .i64 by'], .agg #[.int .i64 ax, .int .i64 ay]] w1 fun e w' => e = .returned (.agg #[.int .i64 dx, .int .i64 dy]) ∧ Below w1.heap.size w1 w'))
    (OF : Hid (∀ w1, Below w.heap.size w w1 → Calls Tryz.prog 92 #[.agg #[.int .i64 dx, .int .i64 dy]] w1 fun e w' => e = .returned (.tuple #[.int .i64 r, .int .i64 0]) ∧ Below w1.heap.size w1 w'))
    (AT : Hid (∀ w1, Below w.heap.size w w1 → Calls Tryz.prog 93 #[.slice A n c, .int .i64 h] w1 fun e w' => e = .returned (.tuple #[band l' h' x' y' e', .int .i64 0]) ∧ Below w1.heap.size w1 w'))
    (GR : Hid (∀ w1, Below w.heap.size w w1 → Calls Tryz.prog 94 #[.int .i64 sp, .int .i64 r, band l' h' x' y' e'] w1 fun e w' => e = .returned (.tuple #[.int .i64 lo, .int .i64 hi, .int .i64 0]) ∧ Below w1.heap.size w1 w'))
    (DS : Hid (∀ w1, Calls Tryz.prog 26 #[.agg #[.int .i64 ax, .int .i64 ay], .agg #[.int .i64 bx, .int .i64 by']] w1 fun e w' => e = .returned (.tuple #[.int .i64 near, .int .i64 far]) ∧ Below w1.heap.size w1 w'))
    (DU : Hid (∀ w1, Calls Tryz.prog 57 #[.int .i64 far, .int .i64 lo] w1 fun e w' => e = .returned (.tuple #[.int .i64 D, .int .i64 0]) ∧ w1 = w'))
    (hn : 0 ≤ near ∧ near ≤ 9223372036854775807) (hhi : 1 ≤ hi ∧ hi ≤ 9223372036854775807) :
    Calls Tryz.prog 56 #[.slice A n c, .int .i64 sp, .int .i64 h, .agg #[.int .i64 ax, .int .i64 ay], .agg #[.int .i64 bx, .int .i64 by']] w fun e w' => e = .returned (.tuple #[.int .i64 (near / hi), .int .i64 D, .int .i64 0]) ∧ Below w.heap.size w w' := by
  have HN := Lib.hid hne; clear hne
  have g1 : ¬ sp < 1 := by omega
  have g2 : ¬ 400 < sp := by omega
  have g3 : ¬ h < 0 := by omega
  have g4 : ¬ 60000 < h := by omega
  have HA := Lib.hid (p2_alloc (.cells #[.int .i64 bx, .int .i64 by'] 36) (p2_new w 36 ax ay))
  have HB := Lib.hid (p2_new1 w (.cells #[.int .i64 ax, .int .i64 ay] 36) 36 bx by')
  have W0 := Lib.hid (b_alloc (b_alloc (Below.refl w.heap.size w) (.cells #[.int .i64 ax, .int .i64 ay] 36)) (.cells #[.int .i64 bx, .int .i64 by'] 36))
  go_enter Tryz.func56, Tryz.ntmps56
  go_wp2_with fail
  (with_reducible refine (C.out _ W0.out).mono ?_); rintro e w1 ⟨rfl, hb⟩
  have W1 := Lib.hid (b_next W0.out hb); have A1 := Lib.hid (p2_keep hb HA.out); have B1 := Lib.hid (p2_keep hb HB.out); clear hb HA HB W0
  obtain ⟨⟨a0, a1⟩, b0, b1⟩ := And.intro A1.out B1.out
  have W2 := Lib.hid (b_alloc W1.out (.cells #[.int .i64 ax, .int .i64 ay, .int .i64 bx, .int .i64 by'] 36))
  have A2 := Lib.hid (p2_alloc (.cells #[.int .i64 ax, .int .i64 ay, .int .i64 bx, .int .i64 by'] 36) A1.out); have B2 := Lib.hid (p2_alloc (.cells #[.int .i64 ax, .int .i64 ay, .int .i64 bx, .int .i64 by'] 36) B1.out)
  have L2 := Lib.hid (q4_new w1 36 ax ay bx by')
  go_wp2_with fail
  go_loopw [51] (fun s wr => (s = .int .i64 0 ∨ s = .int .i64 1 ∨ s = .int .i64 2) ∧ Q4 wr w1.heap.size ax ay bx by' ∧ P2 wr w.heap.size ax ay ∧ P2 wr (w.heap.size + 1) bx by' ∧ Below w.heap.size w wr) (fun s _ => 2 - (intOf s).toNat)
  case atStart => exact ⟨Or.inl rfl, L2.out, A2.out, B2.out, W2.out⟩
  case round =>
    obtain ⟨rfl | rfl | rfl, ⟨q0, q1, q2, q3⟩, ⟨a0, a1⟩, ⟨b0, b1⟩, hbl⟩ := hrel
    · have n1 := Lib.hid hbl; have n2 := Lib.hid (And.intro (And.intro q0 (And.intro q1 (And.intro q2 q3))) (And.intro (And.intro a0 a1) (And.intro b0 b1)))
      clear hbl
      go_wp2_with fail
      (with_reducible refine (KA.out _).mono ?_); rintro e w3 ⟨rfl, hb⟩
      have hb2 := b_alloc (Below.refl _ _) (.cells #[.int .i64 ax, .int .i64 ay] 36) |>.trans (hb.mono (by simp))
      have n3 := Lib.hid (And.intro (q4_keep hb2 n2.out.1) (And.intro (p2_keep hb2 n2.out.2.1) (And.intro (p2_keep hb2 n2.out.2.2) (b_next n1.out hb2)))); clear hb hb2
      clear q0 q1 q2 q3 a0 a1 b0 b1
      go_wp2_with fail
      go_roundw
      case rel => exact ⟨Or.inr (Or.inl rfl), n3.out⟩
      case measure => simp [intOf]
    · have n1 := Lib.hid hbl; have n2 := Lib.hid (And.intro (And.intro q0 (And.intro q1 (And.intro q2 q3))) (And.intro (And.intro a0 a1) (And.intro b0 b1)))
      clear hbl
      go_wp2_with fail
      (with_reducible refine (KB.out _).mono ?_); rintro e w3 ⟨rfl, hb⟩
      have hb2 := b_alloc (Below.refl _ _) (.cells #[.int .i64 bx, .int .i64 by'] 36) |>.trans (hb.mono (by simp))
      have n3 := Lib.hid (And.intro (q4_keep hb2 n2.out.1) (And.intro (p2_keep hb2 n2.out.2.1) (And.intro (p2_keep hb2 n2.out.2.2) (b_next n1.out hb2)))); clear hb hb2
      clear q0 q1 q2 q3 a0 a1 b0 b1
      go_wp2_with fail
      go_roundw
      case rel => exact ⟨Or.inr (Or.inr rfl), n3.out⟩
      case measure => simp [intOf]
    · have n1 := Lib.hid hbl; have n2 := Lib.hid (And.intro (And.intro a0 a1) (And.intro b0 b1)); clear hbl q0 q1 q2 q3
      have hne := HN.out
      go_wp2_with fail
      (with_reducible refine (SB.out _).mono ?_); rintro e w3 ⟨rfl, hb⟩
      have n3 := Lib.hid (b_next n1.out hb); have m3 := Lib.hid (And.intro (p2_keep hb n2.out.1) (p2_keep hb n2.out.2)); clear hb a0 a1 b0 b1 hne
      obtain ⟨⟨a0, a1⟩, b0, b1⟩ := m3.out
      go_wp2_with fail
      (with_reducible refine (OF.out _ n3.out).mono ?_); rintro e w4 ⟨rfl, hb⟩
      have n4 := Lib.hid (b_next n3.out hb); have m4 := Lib.hid (And.intro (p2_keep hb m3.out.1) (p2_keep hb m3.out.2)); clear hb a0 a1 b0 b1
      obtain ⟨⟨a0, a1⟩, b0, b1⟩ := m4.out
      go_wp2_with fail
      (with_reducible refine (AT.out _ n4.out).mono ?_); rintro e w5 ⟨rfl, hb⟩
      have n5 := Lib.hid (b_next n4.out hb); have m5 := Lib.hid (And.intro (p2_keep hb m4.out.1) (p2_keep hb m4.out.2)); clear hb a0 a1 b0 b1
      obtain ⟨w6, hw6⟩ : ∃ w6, w6 = w5.alloc (.cells #[.int .i64 l', .int .i64 h', .int .i64 x', .int .i64 y', .int .i64 e'] 158) := ⟨_, rfl⟩
      have n6 : Hid (Below w.heap.size w w6) := Lib.hid (by rw [hw6]; exact b_alloc n5.out _)
      have m6 : Hid (P2 w6 w.heap.size ax ay ∧ P2 w6 (w.heap.size + 1) bx by') := Lib.hid (by rw [hw6]; exact ⟨p2_alloc _ m5.out.1, p2_alloc _ m5.out.2⟩)
      have H6 := Lib.hid hw6.symm; clear hw6
      obtain ⟨⟨a0, a1⟩, b0, b1⟩ := m5.out
      go_wp2_with fail
      rw [H6.out]
      (with_reducible refine (GR.out _ n6.out).mono ?_); rintro e w7 ⟨rfl, hb⟩
      have n7 := Lib.hid (b_next n6.out hb); have m7 := Lib.hid (And.intro (p2_keep hb m6.out.1) (p2_keep hb m6.out.2)); clear hb a0 a1 b0 b1 H6
      obtain ⟨⟨a0, a1⟩, b0, b1⟩ := m7.out
      go_wp2_with fail
      (with_reducible refine (DS.out _).mono ?_); rintro e w8 ⟨rfl, hb⟩
      have n8 := Lib.hid (b_next n7.out hb); clear hb a0 a1 b0 b1
      go_wp2_with fail
      (with_reducible refine (DU.out _).mono ?_); rintro e w9 ⟨rfl, rfl⟩
      go_wp2_with fail
      refine bodyPost_ret (v := .tuple #[.int .i64 (near / hi), .int .i64 D, .int .i64 0]) (by simp [results, Tryz.results56, go_sem]) rfl ⟨rfl, ?_⟩
      exact n8.out
set_option maxRecDepth 100000 in
set_option maxHeartbeats 4000000 in
theorem leg_oky (A : Option Addr) (n c : Nat) (sp h ax ay by' : Int) (w : World)
    (l' h' x' y' e' dx dy r lo hi near far D : Int) (C : Hid (WkC (.slice A n c) 0 w)) (hs : 1 ≤ sp ∧ sp ≤ 400) (hh : 0 ≤ h ∧ h ≤ 60000) (KA : Hid (Chk ax ay 0)) (KB : Hid (Chk ax by' 0)) (hne : ¬ ay = by')
    (SB : Hid (∀ w1, Calls Tryz.prog 81 #[.agg #[.int .i64 ax, .int .i64 by'], .agg #[.int .i64 ax, .int .i64 ay]] w1 fun e w' => e = .returned (.agg #[.int .i64 dx, .int .i64 dy]) ∧ Below w1.heap.size w1 w'))
    (OF : Hid (∀ w1, Below w.heap.size w w1 → Calls Tryz.prog 92 #[.agg #[.int .i64 dx, .int .i64 dy]] w1 fun e w' => e = .returned (.tuple #[.int .i64 r, .int .i64 0]) ∧ Below w1.heap.size w1 w'))
    (AT : Hid (∀ w1, Below w.heap.size w w1 → Calls Tryz.prog 93 #[.slice A n c, .int .i64 h] w1 fun e w' => e = .returned (.tuple #[band l' h' x' y' e', .int .i64 0]) ∧ Below w1.heap.size w1 w'))
    (GR : Hid (∀ w1, Below w.heap.size w w1 → Calls Tryz.prog 94 #[.int .i64 sp, .int .i64 r, band l' h' x' y' e'] w1 fun e w' => e = .returned (.tuple #[.int .i64 lo, .int .i64 hi, .int .i64 0]) ∧ Below w1.heap.size w1 w'))
    (DS : Hid (∀ w1, Calls Tryz.prog 26 #[.agg #[.int .i64 ax, .int .i64 ay], .agg #[.int .i64 ax, .int .i64 by']] w1 fun e w' => e = .returned (.tuple #[.int .i64 near, .int .i64 far]) ∧ Below w1.heap.size w1 w'))
    (DU : Hid (∀ w1, Calls Tryz.prog 57 #[.int .i64 far, .int .i64 lo] w1 fun e w' => e = .returned (.tuple #[.int .i64 D, .int .i64 0]) ∧ w1 = w'))
    (hn : 0 ≤ near ∧ near ≤ 9223372036854775807) (hhi : 1 ≤ hi ∧ hi ≤ 9223372036854775807) :
    Calls Tryz.prog 56 #[.slice A n c, .int .i64 sp, .int .i64 h, .agg #[.int .i64 ax, .int .i64 ay], .agg #[.int .i64 ax, .int .i64 by']] w fun e w' => e = .returned (.tuple #[.int .i64 (near / hi), .int .i64 D, .int .i64 0]) ∧ Below w.heap.size w w' := by
  have HN := Lib.hid hne; clear hne
  have g1 : ¬ sp < 1 := by omega
  have g2 : ¬ 400 < sp := by omega
  have g3 : ¬ h < 0 := by omega
  have g4 : ¬ 60000 < h := by omega
  have HA := Lib.hid (p2_alloc (.cells #[.int .i64 ax, .int .i64 by'] 36) (p2_new w 36 ax ay))
  have HB := Lib.hid (p2_new1 w (.cells #[.int .i64 ax, .int .i64 ay] 36) 36 ax by')
  have W0 := Lib.hid (b_alloc (b_alloc (Below.refl w.heap.size w) (.cells #[.int .i64 ax, .int .i64 ay] 36)) (.cells #[.int .i64 ax, .int .i64 by'] 36))
  go_enter Tryz.func56, Tryz.ntmps56
  go_wp2_with fail
  (with_reducible refine (C.out _ W0.out).mono ?_); rintro e w1 ⟨rfl, hb⟩
  have W1 := Lib.hid (b_next W0.out hb); have A1 := Lib.hid (p2_keep hb HA.out); have B1 := Lib.hid (p2_keep hb HB.out); clear hb HA HB W0
  obtain ⟨⟨a0, a1⟩, b0, b1⟩ := And.intro A1.out B1.out
  have W2 := Lib.hid (b_alloc W1.out (.cells #[.int .i64 ax, .int .i64 ay, .int .i64 ax, .int .i64 by'] 36))
  have A2 := Lib.hid (p2_alloc (.cells #[.int .i64 ax, .int .i64 ay, .int .i64 ax, .int .i64 by'] 36) A1.out); have B2 := Lib.hid (p2_alloc (.cells #[.int .i64 ax, .int .i64 ay, .int .i64 ax, .int .i64 by'] 36) B1.out)
  have L2 := Lib.hid (q4_new w1 36 ax ay ax by')
  go_wp2_with fail
  go_loopw [51] (fun s wr => (s = .int .i64 0 ∨ s = .int .i64 1 ∨ s = .int .i64 2) ∧ Q4 wr w1.heap.size ax ay ax by' ∧ P2 wr w.heap.size ax ay ∧ P2 wr (w.heap.size + 1) ax by' ∧ Below w.heap.size w wr) (fun s _ => 2 - (intOf s).toNat)
  case atStart => exact ⟨Or.inl rfl, L2.out, A2.out, B2.out, W2.out⟩
  case round =>
    obtain ⟨rfl | rfl | rfl, ⟨q0, q1, q2, q3⟩, ⟨a0, a1⟩, ⟨b0, b1⟩, hbl⟩ := hrel
    · have n1 := Lib.hid hbl; have n2 := Lib.hid (And.intro (And.intro q0 (And.intro q1 (And.intro q2 q3))) (And.intro (And.intro a0 a1) (And.intro b0 b1)))
      clear hbl
      go_wp2_with fail
      (with_reducible refine (KA.out _).mono ?_); rintro e w3 ⟨rfl, hb⟩
      have hb2 := b_alloc (Below.refl _ _) (.cells #[.int .i64 ax, .int .i64 ay] 36) |>.trans (hb.mono (by simp))
      have n3 := Lib.hid (And.intro (q4_keep hb2 n2.out.1) (And.intro (p2_keep hb2 n2.out.2.1) (And.intro (p2_keep hb2 n2.out.2.2) (b_next n1.out hb2)))); clear hb hb2
      clear q0 q1 q2 q3 a0 a1 b0 b1
      go_wp2_with fail
      go_roundw
      case rel => exact ⟨Or.inr (Or.inl rfl), n3.out⟩
      case measure => simp [intOf]
    · have n1 := Lib.hid hbl; have n2 := Lib.hid (And.intro (And.intro q0 (And.intro q1 (And.intro q2 q3))) (And.intro (And.intro a0 a1) (And.intro b0 b1)))
      clear hbl
      go_wp2_with fail
      (with_reducible refine (KB.out _).mono ?_); rintro e w3 ⟨rfl, hb⟩
      have hb2 := b_alloc (Below.refl _ _) (.cells #[.int .i64 ax, .int .i64 by'] 36) |>.trans (hb.mono (by simp))
      have n3 := Lib.hid (And.intro (q4_keep hb2 n2.out.1) (And.intro (p2_keep hb2 n2.out.2.1) (And.intro (p2_keep hb2 n2.out.2.2) (b_next n1.out hb2)))); clear hb hb2
      clear q0 q1 q2 q3 a0 a1 b0 b1
      go_wp2_with fail
      go_roundw
      case rel => exact ⟨Or.inr (Or.inr rfl), n3.out⟩
      case measure => simp [intOf]
    · have n1 := Lib.hid hbl; have n2 := Lib.hid (And.intro (And.intro a0 a1) (And.intro b0 b1)); clear hbl q0 q1 q2 q3
      have hne := HN.out
      go_wp2_with fail
      (with_reducible refine (SB.out _).mono ?_); rintro e w3 ⟨rfl, hb⟩
      have n3 := Lib.hid (b_next n1.out hb); have m3 := Lib.hid (And.intro (p2_keep hb n2.out.1) (p2_keep hb n2.out.2)); clear hb a0 a1 b0 b1 hne
      obtain ⟨⟨a0, a1⟩, b0, b1⟩ := m3.out
      go_wp2_with fail
      (with_reducible refine (OF.out _ n3.out).mono ?_); rintro e w4 ⟨rfl, hb⟩
      have n4 := Lib.hid (b_next n3.out hb); have m4 := Lib.hid (And.intro (p2_keep hb m3.out.1) (p2_keep hb m3.out.2)); clear hb a0 a1 b0 b1
      obtain ⟨⟨a0, a1⟩, b0, b1⟩ := m4.out
      go_wp2_with fail
      (with_reducible refine (AT.out _ n4.out).mono ?_); rintro e w5 ⟨rfl, hb⟩
      have n5 := Lib.hid (b_next n4.out hb); have m5 := Lib.hid (And.intro (p2_keep hb m4.out.1) (p2_keep hb m4.out.2)); clear hb a0 a1 b0 b1
      obtain ⟨w6, hw6⟩ : ∃ w6, w6 = w5.alloc (.cells #[.int .i64 l', .int .i64 h', .int .i64 x', .int .i64 y', .int .i64 e'] 158) := ⟨_, rfl⟩
      have n6 : Hid (Below w.heap.size w w6) := Lib.hid (by rw [hw6]; exact b_alloc n5.out _)
      have m6 : Hid (P2 w6 w.heap.size ax ay ∧ P2 w6 (w.heap.size + 1) ax by') := Lib.hid (by rw [hw6]; exact ⟨p2_alloc _ m5.out.1, p2_alloc _ m5.out.2⟩)
      have H6 := Lib.hid hw6.symm; clear hw6
      obtain ⟨⟨a0, a1⟩, b0, b1⟩ := m5.out
      go_wp2_with fail
      rw [H6.out]
      (with_reducible refine (GR.out _ n6.out).mono ?_); rintro e w7 ⟨rfl, hb⟩
      have n7 := Lib.hid (b_next n6.out hb); have m7 := Lib.hid (And.intro (p2_keep hb m6.out.1) (p2_keep hb m6.out.2)); clear hb a0 a1 b0 b1 H6
      obtain ⟨⟨a0, a1⟩, b0, b1⟩ := m7.out
      go_wp2_with fail
      (with_reducible refine (DS.out _).mono ?_); rintro e w8 ⟨rfl, hb⟩
      have n8 := Lib.hid (b_next n7.out hb); clear hb a0 a1 b0 b1
      go_wp2_with fail
      (with_reducible refine (DU.out _).mono ?_); rintro e w9 ⟨rfl, rfl⟩
      go_wp2_with fail
      refine bodyPost_ret (v := .tuple #[.int .i64 (near / hi), .int .i64 D, .int .i64 0]) (by simp [results, Tryz.results56, go_sem]) rfl ⟨rfl, ?_⟩
      exact n8.out
end Wind
end Go.Proofs.YtmkglhoahdlogaaGreatDoor
namespace Go.Proofs.YtmkglhoahdlogaaGreatDoor
open Go.RowKit
namespace Wind
open Kit Ang Num Plane
theorem d16e (a : Int) (ha : -20000000 ≤ a ∧ a ≤ 20000000) : dd a 16384 = a / 16384 ∧ du a 16384 = -((-a) / 16384) := by
  have h0 : (16384 : Int) ≠ 0 := by decide
  have h1 : ¬ (a = -9223372036854775808 ∧ (16384 : Int) = -1) := by omega
  refine ⟨(d16 a ha).2.1, ?_⟩
  rw [du_ok h0 h1, fd_pos (by decide)]
  have h : a.tmod 16384 = 0 ↔ a % 16384 = 0 := by
    rw [← Int.dvd_iff_tmod_eq_zero, ← Int.dvd_iff_emod_eq_zero]
  split <;> rename_i hh <;> rw [h] at hh <;> omega
/-- The bounds of the speed over ground. -/
def glo (sp hd x y e : Int) : Int := max 1 (sp + dd (gc hd x y - gf hd e) 16384)
def ghi (sp hd x y e : Int) : Int := max 1 (sp + du (gc hd x y + gf hd e) 16384)
theorem gc_bd {hd x y : Int} (hx : -150 ≤ x ∧ x ≤ 150) (hy : -150 ≤ y ∧ y ≤ 150) : -4915200 ≤ gc hd x y ∧ gc hd x y ≤ 4915200 := by
  have m1 := mulW hx (sn_bd hd) rfl
  have m2 := mulW hy (sn_bd (hd + 1024)) rfl
  unfold gc; omega
theorem gf_zero (hd : Int) : gf hd 0 = 0 := by unfold gf; rw [Int.zero_mul]
theorem gc_zero (hd : Int) : gc hd 0 0 = 0 := by unfold gc; rw [Int.zero_mul, Int.zero_mul]; rfl
theorem gc_half (hd x y : Int) : gc (wrap64 (hd + 2048)) x y = - gc hd x y := by
  have e1 : sn (wrap64 (hd + 2048)) = - sn hd := by rw [← sn_half hd]; exact sn_mod (wrap_mod _)
  have e2 : sn (wrap64 (hd + 2048) + 1024) = - sn (hd + 1024) := by
    rw [← sn_half (hd + 1024)]; exact sn_mod (by have := wrap_mod (hd + 2048); omega)
  unfold gc; rw [e1, e2]; grind
theorem ground_bds {sp hd x y e : Int} (hs : 1 ≤ sp ∧ sp ≤ 400) (hx : -150 ≤ x ∧ x ≤ 150) (hy : -150 ≤ y ∧ y ≤ 150) (he : 0 ≤ e ∧ e ≤ 100) :
    1 ≤ glo sp hd x y e ∧ glo sp hd x y e ≤ ghi sp hd x y e ∧ ghi sp hd x y e ≤ sp + 500 := by
  have b1 := gc_bd (hd := hd) hx hy
  have b2 := gf_bd (hd := hd) he
  unfold glo ghi
  rw [(d16e _ (by omega)).1, (d16e _ (by omega)).2]
  omega
theorem bounds_law {sp hd x y e : Int} (hs : 1 ≤ sp ∧ sp ≤ 400) (hx : -150 ≤ x ∧ x ≤ 150) (hy : -150 ≤ y ∧ y ≤ 150) (he : 0 ≤ e ∧ e ≤ 100) :
    glo sp hd x y e ≤ glo sp hd x y 0 ∧ ghi sp hd x y 0 ≤ ghi sp hd x y e ∧ glo sp hd x y e ≤ ghi sp hd x y e ∧ ghi sp hd x y 0 - glo sp hd x y 0 ≤ 1 ∧
    (glo sp hd x y 0 = 1 ∨ glo sp (wrap64 (hd + 2048)) x y 0 = 1 ∨ glo sp hd x y 0 + ghi sp (wrap64 (hd + 2048)) x y 0 = 2 * sp ∧ ghi sp hd x y 0 + glo sp (wrap64 (hd + 2048)) x y 0 = 2 * sp) := by
  have b1 := gc_bd (hd := hd) hx hy
  have b2 := gf_bd (hd := hd) he
  unfold glo ghi
  rw [gc_half, gf_zero, gf_zero, (d16e (gc hd x y - gf hd e) (by omega)).1, (d16e (gc hd x y + gf hd e) (by omega)).2, (d16e (gc hd x y - 0) (by omega)).1, (d16e (gc hd x y + 0) (by omega)).2, (d16e (- gc hd x y - 0) (by omega)).1, (d16e (- gc hd x y + 0) (by omega)).2]
  omega
/-- The bounds of a leg's duration: n / hi and f / lo, rounded away. -/
theorem leg_law {n f lo hi sp : Int} (hn : 0 ≤ n) (hnf : n ≤ f) (h1 : 1 ≤ lo) (h2 : lo ≤ hi) (h3 : hi ≤ sp + 500) (hs : 1 ≤ sp) :
    n / hi ≤ du f lo ∧ n - sp - 500 ≤ n / hi * (sp + 500) ∧ f / (sp + 500) ≤ du f lo ∧ du f lo = (f + lo - 1) / lo := by
  have hdu : du f lo = (f + lo - 1) / lo := by
    rw [du_ok (by omega) (by omega), fd_pos (by omega), Int.tmod_eq_emod_of_nonneg (by omega)]
    have e1 := Int.mul_ediv_add_emod f lo
    have e2 := Int.emod_nonneg f (show lo ≠ 0 by omega)
    have e3 := Int.emod_lt_of_pos f (show 0 < lo by omega)
    split
    · rename_i h0
      refine (ediv_unique (by omega) ?_ ?_).symm <;> omega
    · rename_i h0
      have e4 : lo * (f / lo + 1) = lo * (f / lo) + lo := by grind
      refine (ediv_unique (by omega) ?_ ?_).symm <;> omega
  have a1 := Int.mul_ediv_add_emod n hi
  have a2 := Int.emod_nonneg n (show hi ≠ 0 by omega)
  have a3 := Int.emod_lt_of_pos n (show 0 < hi by omega)
  have a0 : 0 ≤ n / hi := Int.ediv_nonneg hn (by omega)
  have c0 : 0 ≤ f / (sp + 500) := Int.ediv_nonneg (by omega) (by omega)
  have c1 := Int.mul_ediv_add_emod f (sp + 500)
  have c2 := Int.emod_nonneg f (show sp + 500 ≠ 0 by omega)
  refine ⟨?_, ?_, ?_, hdu⟩
  · rw [hdu]
    rw [Int.le_ediv_iff_mul_le (by omega)]
    have := Int.mul_le_mul_of_nonneg_left h2 a0
    have e : n / hi * hi = hi * (n / hi) := Int.mul_comm _ _
    omega
  · have := Int.mul_le_mul_of_nonneg_left h3 a0
    have e : n / hi * hi = hi * (n / hi) := Int.mul_comm _ _
    omega
  · rw [hdu]
    rw [Int.le_ediv_iff_mul_le (by omega)]
    have := Int.mul_le_mul_of_nonneg_left (show lo ≤ sp + 500 by omega) c0
    have e : f / (sp + 500) * (sp + 500) = (sp + 500) * (f / (sp + 500)) := Int.mul_comm _ _
    omega
theorem calm_law {sp hd : Int} (hs : 1 ≤ sp ∧ sp ≤ 400) : glo sp hd 0 0 0 = sp ∧ ghi sp hd 0 0 0 = sp := by
  unfold glo ghi
  rw [gc_zero, gf_zero, (d16e (0 - 0) (by omega)).1, (d16e (0 + 0) (by omega)).2]
  omega
end Wind
end Go.Proofs.YtmkglhoahdlogaaGreatDoor
namespace Go.Proofs.YtmkglhoahdlogaaGreatDoor
open Go.RowKit
namespace Wind
open Kit Ang Num Plane
theorem wchk_all {L H X Y E : Nat → Int} : ∀ {n : Nat}, wchk L H X Y E n = 0 → ∀ i, i < n → werr L H X Y E i = 0
  | 0, _, i, hi => absurd hi (Nat.not_lt_zero _)
  | n + 1, h, i, hi => by
    have h0 : wchk L H X Y E n = 0 := by
      by_cases e : wchk L H X Y E n = 0
      · exact e
      · rw [wchk_stays e (n + 1) (by omega)] at h; exact h
    rcases Nat.lt_or_ge i n with hl | hl
    · exact wchk_all h0 i hl
    · rw [show i = n from by omega, ← wchk_step h0]; exact h
theorem werr_one {L H X Y E : Nat → Int} {i : Nat} (h : werr L H X Y E i = 0) : w1E (L i) (H i) (X i) (Y i) (E i) = 0 := by
  unfold w1E; unfold werr at h ⊢
  split at h
  · cases h
  · rename_i hn
    rw [if_neg hn, if_neg (by omega)]
theorem band_ok {L H X Y E : Nat → Int} {n : Nat} (h : wck L H X Y E n = 0) (i : Nat) : w1E (pickW L 0 i n) (pickW H 60001 i n) (pickW X 0 i n) (pickW Y 0 i n) (pickW E 0 i n) = 0 := by
  unfold pickW
  by_cases hi : i < n
  · simp only [if_pos hi]
    unfold wck at h
    split at h
    · cases h
    · exact werr_one (wchk_all h i hi)
  · simp only [if_neg hi]
    decide
theorem chk_two (x y : Int) : chk x y = 0 ∧ good x y ∨ chk x y = 4 ∧ ¬ good x y := by
  by_cases h : good x y
  · exact Or.inl ⟨chk_ok h, h⟩
  · exact Or.inr ⟨chk_bad h, h⟩
/-- wind.Leg's error. -/
def legE (L H X Y E : Nat → Int) (n : Nat) (sp h ax ay bx by' : Int) : Int := if wck L H X Y E n ≠ 0 then wck L H X Y E n else if (sp < 1 ∨ 400 < sp) ∨ h < 0 ∨ 60000 < h then 4 else if chk ax ay ≠ 0 then 4 else chk bx by'
theorem legE_ok {L H X Y E : Nat → Int} {n : Nat} {sp h ax ay bx by' : Int} (he : legE L H X Y E n sp h ax ay bx by' = 0) : wck L H X Y E n = 0 ∧ (1 ≤ sp ∧ sp ≤ 400) ∧ (0 ≤ h ∧ h ≤ 60000) ∧ good ax ay ∧ good bx by' := by
  unfold legE at he
  by_cases hz : wck L H X Y E n ≠ 0
  · rw [if_pos hz] at he; exact absurd he hz
  rw [if_neg hz] at he
  by_cases hr : (sp < 1 ∨ 400 < sp) ∨ h < 0 ∨ 60000 < h
  · rw [if_pos hr] at he; cases he
  rw [if_neg hr] at he
  rcases chk_two ax ay with ⟨ha, ga⟩ | ⟨ha, ga⟩
  · rw [if_neg (by rw [ha]; decide)] at he
    rcases chk_two bx by' with ⟨hb, gb⟩ | ⟨hb, gb⟩
    · exact ⟨Classical.not_not.1 hz, by omega, by omega, ga, gb⟩
    · rw [hb] at he; cases he
  · rw [if_pos (by rw [ha]; decide)] at he; cases he
theorem wv_slice {w : World} {v : Value} {n : Nat} {L H X Y E : Nat → Int} (hv : WV w v n L H X Y E) : ∃ A c, v = .slice A n c := by
  rcases hv with ⟨h0, rfl | ⟨a, cap, rfl, -⟩⟩ | ⟨h0, b, off, cap, rfl, -⟩
  · exact ⟨_, _, by rw [h0]⟩
  · exact ⟨_, _, by rw [h0]⟩
  · exact ⟨_, _, rfl⟩
section
variable {v : Value} {n : Nat} {L H X Y E : Nat → Int} {sp h ax ay bx by' : Int} {w : World}
theorem legC_bad (hv : WV w v n L H X Y E) (he : legE L H X Y E n sp h ax ay bx by' ≠ 0) :
    Calls Tryz.prog 56 #[v, .int .i64 sp, .int .i64 h, .agg #[.int .i64 ax, .int .i64 ay], .agg #[.int .i64 bx, .int .i64 by']] w fun e w' => e = .returned (.tuple #[.int .i64 0, .int .i64 0, .int .i64 (legE L H X Y E n sp h ax ay bx by')]) ∧ Below w.heap.size w w' := by
  have C := checkC hv
  obtain ⟨A, c, rfl⟩ := wv_slice hv
  unfold legE at *
  by_cases hz : wck L H X Y E n ≠ 0
  · rw [if_pos hz]
    exact leg_bad A n c sp h ax ay bx by' w _ (Lib.hid C) (by simpa using hz) (by simpa using hz)
  rw [if_neg hz] at he ⊢
  rw [Classical.not_not.1 hz] at C
  by_cases hr : (sp < 1 ∨ 400 < sp) ∨ h < 0 ∨ 60000 < h
  · rw [if_pos hr]; exact leg_range A n c sp h ax ay bx by' w (Lib.hid C) hr
  rw [if_neg hr] at he ⊢
  have KA := fun w1 => check ax ay w1
  have KB := fun w1 => check bx by' w1
  rcases chk_two ax ay with ⟨ha, ga⟩ | ⟨ha, ga⟩
  · rw [if_neg (by rw [ha]; decide)] at he ⊢
    rcases chk_two bx by' with ⟨hb, gb⟩ | ⟨hb, gb⟩
    · exact absurd hb he
    · rw [ha] at KA; rw [hb] at KB ⊢
      exact leg_b A n c sp h ax ay bx by' w (Lib.hid C) (by omega) (by omega) (Lib.hid KA) (Lib.hid KB)
  · rw [if_pos (by rw [ha]; decide)]
    rw [ha] at KA
    exact leg_a A n c sp h ax ay bx by' w (Lib.hid C) (by omega) (by omega) (Lib.hid KA)
theorem legC_same (hv : WV w v n L H X Y E) (he : legE L H X Y E n sp h ax ay bx by' = 0) (hx : bx = ax) (hy : by' = ay) :
    Calls Tryz.prog 56 #[v, .int .i64 sp, .int .i64 h, .agg #[.int .i64 ax, .int .i64 ay], .agg #[.int .i64 bx, .int .i64 by']] w fun e w' => e = .returned (.tuple #[.int .i64 0, .int .i64 0, .int .i64 0]) ∧ Below w.heap.size w w' := by
  have C := checkC hv
  obtain ⟨A, c, rfl⟩ := wv_slice hv
  obtain ⟨hz, hs, hh, ga, gb⟩ := legE_ok he
  rw [hz] at C
  have KA := fun w1 => check ax ay w1
  have KB := fun w1 => check bx by' w1
  rw [chk_ok ga] at KA
  rw [chk_ok gb] at KB
  exact leg_same A n c sp h ax ay bx by' w (Lib.hid C) hs hh (Lib.hid KA) (Lib.hid KB) hx hy
/-- The winds of a height. -/
def wX (L H X : Nat → Int) (n : Nat) (h : Int) : Int := pickW X 0 (fi L H h n) n
theorem legC_ok (T : Tabs w) (hv : WV w v n L H X Y E) (he : legE L H X Y E n sp h ax ay bx by' = 0) (hne : ¬ (bx = ax ∧ by' = ay)) {r : Int} (hr : OfV (bx - ax) (by' - ay) r) :
    Calls Tryz.prog 56 #[v, .int .i64 sp, .int .i64 h, .agg #[.int .i64 ax, .int .i64 ay], .agg #[.int .i64 bx, .int .i64 by']] w fun e w' => e = .returned (.tuple #[.int .i64 (root (sqr ax ay bx by') / ghi sp r (wX L H X n h) (wX L H Y n h) (wX L H E n h)), .int .i64 (du (dup (sqr ax ay bx by')) (glo sp r (wX L H X n h) (wX L H Y n h) (wX L H E n h))), .int .i64 0]) ∧ Below w.heap.size w w' := by
  have C := checkC hv
  have hAt : atE L H X Y E n h = 0 := by
    obtain ⟨hz, -, hh, -, -⟩ := legE_ok he
    unfold atE; rw [if_neg (fun e => e hz), if_neg (by omega)]
  have AT := fun w1 (hb : Below w.heap.size w w1) => atC_ok (wv_keep hb hv) hAt
  obtain ⟨A, c, rfl⟩ := wv_slice hv
  obtain ⟨hz, hs, hh, ga, gb⟩ := legE_ok he
  rw [hz] at C
  have KA := fun w1 => check ax ay w1
  have KB := fun w1 => check bx by' w1
  rw [chk_ok ga] at KA
  rw [chk_ok gb] at KB
  have hw := band_ok hz (fi L H h n)
  have GR := fun w1 (hb : Below w.heap.size w w1) => groundC sp r _ _ _ _ _ w1 (tabs_keep hb T) hw hs
  obtain ⟨-, bX, bY, bE⟩ := w1_ok hw
  have SB := fun w1 => sub bx by' ax ay w1
  have ga' := ga; have gb' := gb
  unfold good at ga' gb'
  have ux : wrap64 (bx - ax) = bx - ax := IntWalk.wrap64_in _ (by omega)
  have uy : wrap64 (by' - ay) = by' - ay := IntWalk.wrap64_in _ (by omega)
  rw [ux, uy] at SB
  have OF := fun w1 (hb : Below w.heap.size w w1) => of_ok (bx - ax) (by' - ay) r w1 (by unfold InR; omega) (by unfold InR; omega) (by omega) (Lib.hid (tabs_keep hb T)) (Lib.hid hr)
  have DS := fun w1 => distance ax ay bx by' w1 rfl (by omega)
  have gbd := ground_bds (hd := r) hs bX bY bE
  have hsq := sqr_near ga gb
  have hd := dup_le (sqr_nonneg ax ay bx by') hsq
  have hd0 := dup_spec (sqr_nonneg ax ay bx by')
  have DU := fun w1 => divUp (dup (sqr ax ay bx by')) (glo sp r (wX L H X n h) (wX L H Y n h) (wX L H E n h)) w1 (by omega) (by unfold wX; omega)
  have e0 : dde (dup (sqr ax ay bx by')) (glo sp r (wX L H X n h) (wX L H Y n h) (wX L H E n h)) = 0 := (dd_ok (by unfold wX; omega) (by omega)).2
  rw [e0] at DU
  have hrt := root_nonneg (sqr ax ay bx by')
  have bb : 1 ≤ ghi sp r (wX L H X n h) (wX L H Y n h) (wX L H E n h) ∧ ghi sp r (wX L H X n h) (wX L H Y n h) (wX L H E n h) ≤ 9223372036854775807 := by unfold wX; omega
  by_cases hx : ax = bx
  · subst hx
    exact leg_oky A n c sp h ax ay by' w _ _ _ _ _ (ax - ax) (by' - ay) r _ _ _ _ _ (Lib.hid C) hs hh (Lib.hid KA) (Lib.hid KB) (fun e => hne ⟨rfl, e.symm⟩) (Lib.hid SB) (Lib.hid OF) (Lib.hid AT) (Lib.hid GR) (Lib.hid DS) (Lib.hid DU) (by omega) bb
  · exact leg_okx A n c sp h ax ay bx by' w _ _ _ _ _ (bx - ax) (by' - ay) r _ _ _ _ _ (Lib.hid C) hs hh (Lib.hid KA) (Lib.hid KB) hx (Lib.hid SB) (Lib.hid OF) (Lib.hid AT) (Lib.hid GR) (Lib.hid DS) (Lib.hid DU) (by omega) bb
end
end Wind
end Go.Proofs.YtmkglhoahdlogaaGreatDoor
