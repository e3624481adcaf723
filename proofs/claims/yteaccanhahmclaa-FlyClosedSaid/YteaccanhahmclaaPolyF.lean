/- What Check, Locate, Area, Apart and Meets of package polygon return. -/
import Derived.Test.YteaccanhahmclaaPolyE
namespace Go.Proofs.Yteaccanhahmclaa
open Go.RowKit
namespace Poly
open Kit Plane
abbrev CkC (v : Value) (E : Int) (w : World) : Prop := ∀ w1, Below w.heap.size w w1 → Calls Try.prog 112 #[v] w1 fun e w' => e = .returned (.int .i64 E) ∧ Below w1.heap.size w1 w'
abbrev PlC (v : Value) (qx qy E : Int) (w : World) : Prop := ∀ w1, Below w.heap.size w w1 → Calls Try.prog 113 #[v, .agg #[.int .i64 qx, .int .i64 qy]] w1 fun e w' => e = .returned (.int .i64 E) ∧ Below w1.heap.size w1 w'
set_option maxHeartbeats 600000 in
theorem check_big (A : Option Addr) (n cap : Nat) (w : World) (hn : 16 < n) (_hc : n ≤ cap) (_hm : cap ≤ 9223372036854775807) : Calls Try.prog 112 #[.slice A n cap] w fun e w' => e = .returned (.int .i64 2) ∧ w = w' := by
  go_enter Try.func112, Try.ntmps112
  go_wp2
  go_ret
  exact ⟨rfl, rfl⟩
set_option maxHeartbeats 600000 in
theorem check_small (A : Option Addr) (n cap : Nat) (w : World) (hn : n < 3) : Calls Try.prog 112 #[.slice A n cap] w fun e w' => e = .returned (.int .i64 3) ∧ w = w' := by
  go_enter Try.func112, Try.ntmps112
  go_wp2
  go_ret
  exact ⟨rfl, rfl⟩
theorem qv_slice {w : World} {v : Value} {n : Nat} {X Y : Nat → Int} (h : QV w v n X Y) : ∃ A cap, v = .slice A n cap ∧ n ≤ cap ∧ cap ≤ maxLen := by
  rcases h with ⟨h0, rfl | ⟨a, cap, rfl, hc⟩⟩ | ⟨h0, b, off, cap, rfl, h1, h2, h3⟩
  · exact ⟨none, 0, by rw [h0], by omega, by decide⟩
  · exact ⟨some a, cap, by rw [h0], by omega, hc⟩
  · exact ⟨_, cap, rfl, h1, h2⟩
theorem checkC {v : Value} {n : Nat} {X Y : Nat → Int} {w : World} (hv : QV w v n X Y) : CkC v (pck n X Y) w := fun w1 hb => by
  obtain ⟨A, cap, e, hc, hm⟩ := qv_slice hv
  have hm' : cap ≤ 9223372036854775807 := Nat.le_trans hm (by decide)
  by_cases h16 : 16 < n
  · subst e
    have e : pck n X Y = 2 := if_pos h16
    rw [e]
    exact (check_big A n cap w1 h16 hc hm').mono fun e w' ⟨he, hw⟩ => ⟨he, hw ▸ Below.refl _ _⟩
  · by_cases h3 : n < 3
    · subst e
      have e : pck n X Y = 3 := by unfold pck; rw [if_neg h16, if_pos h3]
      rw [e]
      exact (check_small A n cap w1 h3).mono fun e w' ⟨he, hw⟩ => ⟨he, hw ▸ Below.refl _ _⟩
    · have hv1 := qv_keep hb hv
      have hN := fun k (hk : k < n) => nextC hv1 hk
      have hT : (∀ k, k < n → good (X k) (Y k)) → ∀ w2, Below w1.heap.size w1 w2 → Calls Try.prog 150 #[v] w2 fun e w' => e = .returned (.int .i64 (asum n X Y n)) ∧ Below w2.heap.size w2 w' := fun hg w2 h2 => twiceC (qv_keep h2 hv1) (by omega) (by omega) hg
      rcases hv1 with ⟨h0', -⟩ | ⟨h0, b, off, cap', rfl, h1, h2, h3'⟩
      · omega
      · exact check_w n cap' b off X Y w1 (by omega) (by omega) h1 (Nat.le_trans h2 (by decide)) (Lib.hid h3') (Lib.hid hN) (Lib.hid hT)
theorem pck_ok {n : Nat} {X Y : Nat → Int} (h : pck n X Y = 0) : 3 ≤ n ∧ n ≤ 16 ∧ (∀ k, k < n → good (X k) (Y k)) ∧ rows n X Y n = true ∧ 0 < asum n X Y n := by
  unfold pck at h
  split at h
  · omega
  · split at h
    · omega
    · split at h
      · omega
      · rename_i h3
        split at h
        · omega
        · rename_i h4
          exact ⟨by omega, by omega, ckg_iff.1 (by simpa using h3), by cases hr : rows n X Y n <;> simp_all, by omega⟩
theorem place_at {v : Value} {n : Nat} {X Y : Nat → Int} {w : World} (hv : QV w v n X Y) (h : pck n X Y = 0) {qx qy : Int} (hq : good qx qy) : PlC v qx qy (place n X Y qx qy) w := fun w1 hb => by
  obtain ⟨h3, -, hg, -, -⟩ := pck_ok h
  exact placeC (qv_keep hb hv) (by omega) (fun k hk => by have := hg k hk; constructor <;> constructor <;> omega) ⟨⟨by omega, by omega⟩, ⟨by omega, by omega⟩⟩
set_option maxHeartbeats 2000000 in
theorem loc_bad (v : Value) (qx qy E : Int) (w : World) (K : Hid (CkC v E w)) (_hE1 : (E == 0) = false) (hE2 : (E != 0) = true) :
    Calls Try.prog 50 #[v, .agg #[.int .i64 qx, .int .i64 qy]] w fun e w' => e = .returned (.tuple #[.int .i64 0, .int .i64 E]) ∧ Below w.heap.size w w' := by
  go_enter Try.func50, Try.ntmps50
  have Hq := Lib.hid (p2_new w 43 qx qy)
  have HW := Lib.hid (b_alloc (Below.refl w.heap.size w) (.cells #[.int .i64 qx, .int .i64 qy] 43))
  go_wp2_with fail
  refine (K.out _ HW.out).mono ?_; rintro e w1 ⟨rfl, h⟩
  have hp := p2_keep h Hq.out; have hw := b_next HW.out h; clear h
  go_wp2_with fail
  go_ret2
  exact ⟨by first | rfl | simp, hw⟩
set_option maxHeartbeats 2000000 in
theorem loc_far (v : Value) (qx qy : Int) (w : World) (K : Hid (CkC v 0 w)) (G : Hid (Chk qx qy 4)) :
    Calls Try.prog 50 #[v, .agg #[.int .i64 qx, .int .i64 qy]] w fun e w' => e = .returned (.tuple #[.int .i64 0, .int .i64 4]) ∧ Below w.heap.size w w' := by
  go_enter Try.func50, Try.ntmps50
  have Hq := Lib.hid (p2_new w 43 qx qy)
  have HW := Lib.hid (b_alloc (Below.refl w.heap.size w) (.cells #[.int .i64 qx, .int .i64 qy] 43))
  go_wp2_with fail
  refine (K.out _ HW.out).mono ?_; rintro e w1 ⟨rfl, h⟩
  have hp := p2_keep h Hq.out; have hw := b_next HW.out h; clear h
  go_wp2_with fail
  refine (G.out _).mono ?_; rintro e w2 ⟨rfl, h⟩
  replace hp := p2_keep h hp; replace hw := b_next hw h; clear h
  go_wp2_with fail
  go_ret2
  exact ⟨by first | rfl | simp, hw⟩
set_option maxHeartbeats 2000000 in
theorem loc_ok (v : Value) (qx qy p : Int) (w : World) (K : Hid (CkC v 0 w)) (G : Hid (Chk qx qy 0)) (L : Hid (PlC v qx qy p w)) :
    Calls Try.prog 50 #[v, .agg #[.int .i64 qx, .int .i64 qy]] w fun e w' => e = .returned (.tuple #[.int .i64 p, .int .i64 0]) ∧ Below w.heap.size w w' := by
  go_enter Try.func50, Try.ntmps50
  have Hq := Lib.hid (p2_new w 43 qx qy)
  have HW := Lib.hid (b_alloc (Below.refl w.heap.size w) (.cells #[.int .i64 qx, .int .i64 qy] 43))
  go_wp2_with fail
  refine (K.out _ HW.out).mono ?_; rintro e w1 ⟨rfl, h⟩
  have hp := p2_keep h Hq.out; have hw := b_next HW.out h; clear h
  go_wp2_with fail
  refine (G.out _).mono ?_; rintro e w2 ⟨rfl, h⟩
  replace hp := p2_keep h hp; replace hw := b_next hw h; clear h
  go_wp2_with fail
  refine (L.out _ hw).mono ?_; rintro e w3 ⟨rfl, h⟩
  replace hw := b_next hw h; clear h
  go_wp2_with fail
  go_ret2
  exact ⟨by first | rfl | simp, hw⟩
/-- polygon.Locate's answer. -/
def loc (n : Nat) (X Y : Nat → Int) (qx qy : Int) : Int × Int := if pck n X Y ≠ 0 then (0, pck n X Y) else if goodB qx qy = false then (0, 4) else (place n X Y qx qy, 0)
theorem chkG (x y : Int) : Chk x y (if goodB x y = false then 4 else 0) := fun w => by
  have c := check x y w
  cases hg : goodB x y with
  | false => rw [chk_bad (fun g => by rw [goodB_iff.2 g] at hg; cases hg)] at c; rw [if_pos rfl]; exact c
  | true => rw [chk_ok (goodB_iff.1 hg)] at c; rw [if_neg (by simp)]; exact c
theorem locC {v : Value} {n : Nat} {X Y : Nat → Int} {w : World} (hv : QV w v n X Y) (qx qy : Int) :
    Calls Try.prog 50 #[v, .agg #[.int .i64 qx, .int .i64 qy]] w fun e w' => e = .returned (.tuple #[.int .i64 (loc n X Y qx qy).1, .int .i64 (loc n X Y qx qy).2]) ∧ Below w.heap.size w w' := by
  have K := checkC hv
  have G := chkG qx qy
  unfold loc
  by_cases hE : pck n X Y ≠ 0
  · rw [if_pos hE]; exact loc_bad v qx qy _ w (Lib.hid K) (by simpa using hE) (by simpa using hE)
  · rw [if_neg hE]
    have hE := Classical.not_not.1 hE
    rw [hE] at K
    cases hg : goodB qx qy with
    | false => rw [if_pos rfl]; rw [hg, if_pos rfl] at G; exact loc_far v qx qy w (Lib.hid K) (Lib.hid G)
    | true =>
      rw [if_neg (by simp)]; rw [hg, if_neg (by simp)] at G
      exact loc_ok v qx qy _ w (Lib.hid K) (Lib.hid G) (Lib.hid (place_at hv hE (goodB_iff.1 hg)))
/-- polygon.Area's answer. -/
def area (n : Nat) (X Y : Nat → Int) : Int × Int := if pck n X Y ≠ 0 then (0, pck n X Y) else (asum n X Y n, 0)
/-- All of the first k edges are far. -/
def fars (n : Nat) (X Y : Nat → Int) (qx qy d : Int) : Nat → Bool
  | 0 => true
  | k + 1 => fars n X Y qx qy d k && farB (X k) (Y k) (X (nx n k)) (Y (nx n k)) qx qy d
theorem fars_stop {n : Nat} {X Y : Nat → Int} {qx qy d : Int} {k : Nat} (h : farB (X k) (Y k) (X (nx n k)) (Y (nx n k)) qx qy d = false) : ∀ m, k < m → fars n X Y qx qy d m = false
  | 0, hm => by omega
  | m + 1, hm => by
    show (fars n X Y qx qy d m && _) = false
    rcases Nat.lt_or_ge k m with hl | hl
    · rw [fars_stop h m hl]; rfl
    · rw [show m = k from by omega, h, Bool.and_false]
/-- polygon.Apart's answer. -/
def apart (n : Nat) (X Y : Nat → Int) (qx qy d : Int) : Bool × Int :=
  if pck n X Y ≠ 0 then (false, pck n X Y) else if goodB qx qy = false then (false, 4) else if d < 0 ∨ 1000000 < d then (false, 4) else if 0 ≤ place n X Y qx qy then (false, 0) else (fars n X Y qx qy d n, 0)
end Poly
end Go.Proofs.Yteaccanhahmclaa
