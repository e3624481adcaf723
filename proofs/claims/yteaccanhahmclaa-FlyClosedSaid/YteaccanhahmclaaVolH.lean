/- volume.Check and volume.Has: what they return. -/
import Derived.Test.YteaccanhahmclaaPolyF
import Derived.Test.YteaccanhahmclaaPolyWorks
namespace Go.Proofs.Yteaccanhahmclaa
open Go.RowKit
namespace Vol
open Kit Plane Poly
/-- A volume in memory. -/
structure V3 (w : World) (b : Nat) (v : Value) (low high : Int) : Prop where
  c0 : w.cell? ⟨b, 0, none⟩ = some v
  c1 : w.cell? ⟨b, 1, none⟩ = some (.int .i64 low)
  c2 : w.cell? ⟨b, 2, none⟩ = some (.int .i64 high)
theorem v3_new (w : World) (ty : TypeId) (v : Value) (low high : Int) : V3 (w.alloc (.cells #[v, .int .i64 low, .int .i64 high] ty)) w.heap.size v low high := ⟨by simp, by simp, by simp⟩
theorem v3_keep {W w1 : World} (hb : Below W.heap.size W w1) {b : Nat} {v : Value} {low high : Int} (h : V3 W b v low high) : V3 w1 b v low high := ⟨keep hb h.c0, keep hb h.c1, keep hb h.c2⟩
/-- volume.Check's error, that of the area being E. -/
def vck (E low high : Int) : Int := if E ≠ 0 then E else if low < 0 ∨ 60001 < high ∨ high ≤ low then 4 else 0
set_option maxHeartbeats 2000000 in
theorem vcheck (A : Option Addr) (n cap : Nat) (E low high : Int) (w : World) (K : Hid (CkC (.slice A n cap) E w)) :
    Calls Try.prog 91 #[.agg #[.slice A n cap, .int .i64 low, .int .i64 high]] w fun e w' => e = .returned (.int .i64 (vck E low high)) ∧ Below w.heap.size w w' := by
  have H3 := Lib.hid (v3_new w 83 (.slice A n cap) low high)
  have HW := Lib.hid (b_alloc (Below.refl w.heap.size w) (.cells #[.slice A n cap, .int .i64 low, .int .i64 high] 83))
  obtain ⟨R, hR⟩ : ∃ R, R = vck E low high := ⟨_, rfl⟩
  rw [← hR]
  unfold vck at hR
  have HR := Lib.hid hR; clear hR
  go_enter Try.func91, Try.ntmps91
  go_wp2_with fail
  (with_reducible refine (K.out _ HW.out).mono ?_); rintro e w1 ⟨rfl, hb⟩
  have W1 := Lib.hid (b_next HW.out hb); obtain ⟨c0, c1, c2⟩ := v3_keep hb H3.out; clear hb
  by_cases hE : E = 0
  · subst hE
    have hr := HR.out
    rw [if_neg (by decide)] at hr
    by_cases h : low < 0 ∨ 60001 < high ∨ high ≤ low
    · rw [if_pos h] at hr
      subst hr
      clear HR
      go_wp2_with fail
      all_goals first | (exfalso; omega) | (go_ret; exact ⟨rfl, W1.out⟩)
    · rw [if_neg h] at hr
      subst hr
      clear HR
      go_wp2_with fail
      all_goals first | (exfalso; omega) | (go_ret; exact ⟨rfl, W1.out⟩)
  · have hr := HR.out
    rw [if_pos hE] at hr
    subst hr
    have e1 : (R == 0) = false := by simp [hE]
    have e2 : (R != 0) = true := by simp [hE]
    clear HR
    go_wp2_with fail
    all_goals (go_ret; exact ⟨rfl, W1.out⟩)
theorem ret2 {a b : Bool} {E : Int} (h : a = b) : Ending.returned (.tuple #[.bool a, .int .i64 E]) = Ending.returned (.tuple #[.bool b, .int .i64 E]) := by rw [h]
/-- What volume.Has says. -/
def hasV (E low high qx qy h p : Int) : Bool × Int := if vck E low high ≠ 0 then (false, vck E low high) else if goodB qx qy = false then (false, 4) else if h < 0 ∨ 60000 < h then (false, 4) else (decide (0 ≤ p ∧ low ≤ h ∧ h < high), 0)
set_option maxHeartbeats 4000000 in
theorem has_w (A : Option Addr) (n cap : Nat) (E low high qx qy h p : Int) (w : World) (K : Hid (∀ w1, Below w.heap.size w w1 → Calls Try.prog 91 #[.agg #[.slice A n cap, .int .i64 low, .int .i64 high]] w1 fun e w' => e = .returned (.int .i64 (vck E low high)) ∧ Below w1.heap.size w1 w'))
    (G : Hid (Chk qx qy (if goodB qx qy = false then 4 else 0))) (LO : Hid (vck E low high = 0 → goodB qx qy = true → ∀ w1, Below w.heap.size w w1 → Calls Try.prog 50 #[.slice A n cap, .agg #[.int .i64 qx, .int .i64 qy]] w1 fun e w' => e = .returned (.tuple #[.int .i64 p, .int .i64 0]) ∧ Below w1.heap.size w1 w')) :
    Calls Try.prog 41 #[.agg #[.slice A n cap, .int .i64 low, .int .i64 high], .agg #[.int .i64 qx, .int .i64 qy], .int .i64 h] w fun e w' => e = .returned (.tuple #[.bool (hasV E low high qx qy h p).1, .int .i64 (hasV E low high qx qy h p).2]) ∧ Below w.heap.size w w' := by
  have H3 := Lib.hid (v3_keep (b_alloc (Below.refl _ _) (.cells #[.int .i64 qx, .int .i64 qy] 43)) (v3_new w 83 (.slice A n cap) low high))
  have HP := Lib.hid (p2_new (w.alloc (.cells #[.slice A n cap, .int .i64 low, .int .i64 high] 83)) 43 qx qy)
  have HW := Lib.hid (b_alloc (b_alloc (Below.refl w.heap.size w) (.cells #[.slice A n cap, .int .i64 low, .int .i64 high] 83)) (.cells #[.int .i64 qx, .int .i64 qy] 43))
  have hp2 := HP.out
  rw [World.size_alloc] at hp2
  have HP2 := Lib.hid hp2; clear hp2 HP
  obtain ⟨R, hR⟩ : ∃ R, R = hasV E low high qx qy h p := ⟨_, rfl⟩
  rw [← hR]
  unfold hasV at hR
  generalize vck E low high = V at *
  have HR := Lib.hid hR; clear hR
  go_enter Try.func41, Try.ntmps41
  go_wp2_with fail
  (with_reducible refine (K.out _ HW.out).mono ?_); rintro e w1 ⟨rfl, hb⟩
  have W1 := Lib.hid (b_next HW.out hb); have V1 := Lib.hid (v3_keep hb H3.out); have P1 := Lib.hid (p2_keep hb HP2.out); clear hb
  obtain ⟨p0, p1⟩ := P1.out
  by_cases hV : V = 0
  · subst hV
    go_wp2_with fail
    (with_reducible refine (G.out _).mono ?_); rintro e w2 ⟨rfl, hb⟩
    have W2 := Lib.hid (b_next W1.out hb); have V2 := Lib.hid (v3_keep hb V1.out); have P2 := Lib.hid (p2_keep hb P1.out); clear hb p0 p1
    cases hg : goodB qx qy with
    | false =>
      have hr := HR.out
      rw [if_neg (by decide), if_pos hg] at hr
      subst hr
      clear HR
      rw [if_pos rfl]
      go_wp2_with fail
      all_goals (go_ret2; exact ⟨rfl, W2.out⟩)
    | true =>
      have hr := HR.out
      rw [if_neg (by decide), if_neg (by rw [hg]; decide)] at hr
      rw [if_neg (by decide)]
      have LL := Lib.hid (LO.out trivial hg)
      clear HR
      by_cases hh : h < 0 ∨ 60000 < h
      · rw [if_pos hh] at hr
        subst hr
        go_wp2_with fail
        all_goals first | (exfalso; omega) | (go_ret2; exact ⟨rfl, W2.out⟩)
      · rw [if_neg hh] at hr
        subst hr
        obtain ⟨c0, c1, c2⟩ := V2.out
        obtain ⟨p0, p1⟩ := P2.out
        have g1 : ¬ h < 0 := by omega
        have g2 : ¬ 60000 < h := by omega
        go_wp2_with fail
        (with_reducible refine (LL.out _ W2.out).mono ?_); rintro e w3 ⟨rfl, hb⟩
        have W3 := Lib.hid (b_next W2.out hb); clear c0 c1 c2
        obtain ⟨c0, c1, c2⟩ := v3_keep hb V2.out
        clear hb p0 p1
        by_cases x1 : 0 ≤ p <;> by_cases x2 : low ≤ h <;> by_cases x3 : h < high <;> (go_wp2_with fail) <;> first | (exfalso; omega) | (go_ret2; exact ⟨rfl, W3.out⟩) | (go_ret2; exact ⟨ret2 (by first | grind | simp_all), W3.out⟩)
  · have hr := HR.out
    rw [if_pos hV] at hr
    subst hr
    have e1 : (V == 0) = false := by simp [hV]
    have e2 : (V != 0) = true := by simp [hV]
    clear HR
    go_wp2_with fail
    all_goals (go_ret2; exact ⟨rfl, W1.out⟩)
theorem hasC {v : Value} {n : Nat} {X Y : Nat → Int} {w : World} (hv : QV w v n X Y) (low high qx qy h : Int) :
    Calls Try.prog 41 #[.agg #[v, .int .i64 low, .int .i64 high], .agg #[.int .i64 qx, .int .i64 qy], .int .i64 h] w fun e w' => e = .returned (.tuple #[.bool (hasV (pck n X Y) low high qx qy h (place n X Y qx qy)).1, .int .i64 (hasV (pck n X Y) low high qx qy h (place n X Y qx qy)).2]) ∧ Below w.heap.size w w' := by
  obtain ⟨A, cap, rfl, -, -⟩ := qv_slice hv
  refine has_w A n cap (pck n X Y) low high qx qy h (place n X Y qx qy) w (Lib.hid fun w1 hb => vcheck A n cap _ low high w1 (Lib.hid (checkC (qv_keep hb hv)))) (Lib.hid (chkG qx qy)) (Lib.hid fun h1 h2 w1 hb => ?_)
  have hp : pck n X Y = 0 := by
    unfold vck at h1
    by_cases hc : pck n X Y = 0
    · exact hc
    · rw [if_pos hc] at h1; exact h1
  have := locC (qv_keep hb hv) qx qy
  unfold loc at this
  rw [if_neg (fun h => h hp), if_neg (by rw [h2]; decide)] at this
  exact this
end Vol
end Go.Proofs.Yteaccanhahmclaa
