/- Joined texts: PolyF, PolyG, PolyWorks, VolH, RvV. -/
import Derived.Test.YteieagihdflapaaGreatDoorPolyE
import Derived.Test.YteieagihdflapaaGreatDoorJ07
import Derived.Test.YteieagihdflapaaGreatDoorJ30
namespace Go.Proofs.YteieagihdflapaaGreatDoor
open Go.RowKit
namespace Poly
open Kit Plane
abbrev CkC (v : Value) (E : Int) (w : World) : Prop := ∀ w1, Below w.heap.size w w1 → Calls Tryz.prog 110 #[v] w1 fun e w' => e = .returned (.int .i64 E) ∧ Below w1.heap.size w1 w'
abbrev PlC (v : Value) (qx qy E : Int) (w : World) : Prop := ∀ w1, Below w.heap.size w w1 → Calls Tryz.prog 111 #[v, .agg #[.int .i64 qx, .int .i64 qy]] w1 fun e w' => e = .returned (.int .i64 E) ∧ Below w1.heap.size w1 w'
set_option maxHeartbeats 600000 in
theorem check_big (A : Option Addr) (n cap : Nat) (w : World) (hn : 16 < n) (_hc : n ≤ cap) (_hm : cap ≤ 9223372036854775807) : Calls Tryz.prog 110 #[.slice A n cap] w fun e w' => e = .returned (.int .i64 2) ∧ w = w' := by
  go_enter Tryz.func110, Tryz.ntmps110
  go_wp2
  go_ret
  exact ⟨rfl, rfl⟩
set_option maxHeartbeats 600000 in
theorem check_small (A : Option Addr) (n cap : Nat) (w : World) (hn : n < 3) : Calls Tryz.prog 110 #[.slice A n cap] w fun e w' => e = .returned (.int .i64 3) ∧ w = w' := by
  go_enter Tryz.func110, Tryz.ntmps110
  go_wp2
  go_ret
  exact ⟨rfl, rfl⟩
theorem qv_slice {w : World} {v : Value} {n : Nat} {X Y : Nat → Int} (h : QV w v n X Y) : ∃ A cap, v = .slice A n cap ∧ n ≤ cap ∧ cap ≤ maxLen := by
  rcases h with ⟨h0, rfl | ⟨a, cap, rfl, hc⟩⟩ | ⟨h0, b, off, cap, rfl, h1, h2, h3⟩
  · exact ⟨none, 0, by rw [h0], by omega, by decide⟩
  · exact ⟨some a, cap, by rw [h0], by omega, hc⟩
  · exact ⟨_, cap, rfl, h1, h2⟩
theorem checkC {v : Value} {n : Nat} {X Y : Nat → Int} {w : World} (hv : QV w v n X Y) : CkC v (pck n X Y) w := fun w1 hb => by
  obtain ⟨A, cap, e, hc, hm⟩ := qv_slice hv
  have hm' : cap ≤ 9223372036854775807 := Nat.le_trans hm (by decide)
  by_cases h16 : 16 < n
  · subst e
    have e : pck n X Y = 2 := if_pos h16
    rw [e]
    exact (check_big A n cap w1 h16 hc hm').mono fun e w' ⟨he, hw⟩ => ⟨he, hw ▸ Below.refl _ _⟩
  · by_cases h3 : n < 3
    · subst e
      have e : pck n X Y = 3 := by unfold pck; rw [if_neg h16, if_pos h3]
      rw [e]
      exact (check_small A n cap w1 h3).mono fun e w' ⟨he, hw⟩ => ⟨he, hw ▸ Below.refl _ _⟩
    · have hv1 := qv_keep hb hv
      have hN := fun k (hk : k < n) => nextC hv1 hk
      have hT : (∀ k, k < n → good (X k) (Y k)) → ∀ w2, Below w1.heap.size w1 w2 → Calls Tryz.prog 146 #[v] w2 fun e w' => e = .returned (.int .i64 (asum n X Y n)) ∧ Below w2.heap.size w2 w' := fun hg w2 h2 => twiceC (qv_keep h2 hv1) (by omega) (by omega) hg
      rcases hv1 with ⟨h0', -⟩ | ⟨h0, b, off, cap', rfl, h1, h2, h3'⟩
      · omega
      · exact check_w n cap' b off X Y w1 (by omega) (by omega) h1 (Nat.le_trans h2 (by decide)) (Lib.hid h3') (Lib.hid hN) (Lib.hid hT)
theorem pck_ok {n : Nat} {X Y : Nat → Int} (h : pck n X Y = 0) : 3 ≤ n ∧ n ≤ 16 ∧ (∀ k, k < n → good (X k) (Y k)) ∧ rows n X Y n = true ∧ 0 < asum n X Y n := by
  unfold pck at h
  split at h
  · omega
  · split at h
    · omega
    · split at h
      · omega
      · rename_i h3
        split at h
        · omega
        · rename_i h4
          exact ⟨by omega, by omega, ckg_iff.1 (by simpa using h3), by cases hr : rows n X Y n <;> simp_all, by omega⟩
theorem place_at {v : Value} {n : Nat} {X Y : Nat → Int} {w : World} (hv : QV w v n X Y) (h : pck n X Y = 0) {qx qy : Int} (hq : good qx qy) : PlC v qx qy (place n X Y qx qy) w := fun w1 hb => by
  obtain ⟨h3, -, hg, -, -⟩ := pck_ok h
  exact placeC (qv_keep hb hv) (by omega) (fun k hk => by have := hg k hk; constructor <;> constructor <;> omega) ⟨⟨by omega, by omega⟩, ⟨by omega, by omega⟩⟩
set_option maxHeartbeats 2000000 in
theorem loc_bad (v : Value) (qx qy E : Int) (w : World) (K : Hid (CkC v E w)) (_hE1 : (E == 0) = false) (hE2 : (E != 0) = true) :
    Calls Tryz.prog 60 #[v, .agg #[.int .i64 qx, .int .i64 qy]] w fun e w' => e = .returned (.tuple #[.int .i64 0, .int .i64 E]) ∧ Below w.heap.size w w' := by
  go_enter Tryz.func60, Tryz.ntmps60
  have Hq := Lib.hid (p2_new w 54 qx qy)
  have HW := Lib.hid (b_alloc (Below.refl w.heap.size w) (.cells #[.int .i64 qx, .int .i64 qy] 54))
  go_wp2_with fail
  refine (K.out _ HW.out).mono ?_; rintro e w1 ⟨rfl, h⟩
  have hp := p2_keep h Hq.out; have hw := b_next HW.out h; clear h
  go_wp2_with fail
  go_ret2
  exact ⟨by first | rfl | simp, hw⟩
set_option maxHeartbeats 2000000 in
theorem loc_far (v : Value) (qx qy : Int) (w : World) (K : Hid (CkC v 0 w)) (G : Hid (Chk qx qy 4)) :
    Calls Tryz.prog 60 #[v, .agg #[.int .i64 qx, .int .i64 qy]] w fun e w' => e = .returned (.tuple #[.int .i64 0, .int .i64 4]) ∧ Below w.heap.size w w' := by
  go_enter Tryz.func60, Tryz.ntmps60
  have Hq := Lib.hid (p2_new w 54 qx qy)
  have HW := Lib.hid (b_alloc (Below.refl w.heap.size w) (.cells #[.int .i64 qx, .int .i64 qy] 54))
  go_wp2_with fail
  refine (K.out _ HW.out).mono ?_; rintro e w1 ⟨rfl, h⟩
  have hp := p2_keep h Hq.out; have hw := b_next HW.out h; clear h
  go_wp2_with fail
  refine (G.out _).mono ?_; rintro e w2 ⟨rfl, h⟩
  replace hp := p2_keep h hp; replace hw := b_next hw h; clear h
  go_wp2_with fail
  go_ret2
  exact ⟨by first | rfl | simp, hw⟩
set_option maxHeartbeats 2000000 in
theorem loc_ok (v : Value) (qx qy p : Int) (w : World) (K : Hid (CkC v 0 w)) (G : Hid (Chk qx qy 0)) (L : Hid (PlC v qx qy p w)) :
    Calls Tryz.prog 60 #[v, .agg #[.int .i64 qx, .int .i64 qy]] w fun e w' => e = .returned (.tuple #[.int .i64 p, .int .i64 0]) ∧ Below w.heap.size w w' := by
  go_enter Tryz.func60, Tryz.ntmps60
  have Hq := Lib.hid (p2_new w 54 qx qy)
  have HW := Lib.hid (b_alloc (Below.refl w.heap.size w) (.cells #[.int .i64 qx, .int .i64 qy] 54))
  go_wp2_with fail
  refine (K.out _ HW.out).mono ?_; rintro e w1 ⟨rfl, h⟩
  have hp := p2_keep h Hq.out; have hw := b_next HW.out h; clear h
  go_wp2_with fail
  refine (G.out _).mono ?_; rintro e w2 ⟨rfl, h⟩
  replace hp := p2_keep h hp; replace hw := b_next hw h; clear h
  go_wp2_with fail
  refine (L.out _ hw).mono ?_; rintro e w3 ⟨rfl, h⟩
  replace hw := b_next hw h; clear h
  go_wp2_with fail
  go_ret2
  exact ⟨by first | rfl | simp, hw⟩
/-- polygon.Locate's answer. -/
def loc (n : Nat) (X Y : Nat → Int) (qx qy : Int) : Int × Int := if pck n X Y ≠ 0 then (0, pck n X Y) else if goodB qx qy = false then (0, 4) else (place n X Y qx qy, 0)
theorem chkG (x y : Int) : Chk x y (if goodB x y = false then 4 else 0) := fun w => by
  have c := check x y w
  cases hg : goodB x y with
  | false => rw [chk_bad (fun g => by rw [goodB_iff.2 g] at hg; cases hg)] at c; rw [if_pos rfl]; exact c
  | true => rw [chk_ok (goodB_iff.1 hg)] at c; rw [if_neg (by simp)]; exact c
theorem locC {v : Value} {n : Nat} {X Y : Nat → Int} {w : World} (hv : QV w v n X Y) (qx qy : Int) :
    Calls Tryz.prog 60 #[v, .agg #[.int .i64 qx, .int .i64 qy]] w fun e w' => e = .returned (.tuple #[.int .i64 (loc n X Y qx qy).1, .int .i64 (loc n X Y qx qy).2]) ∧ Below w.heap.size w w' := by
  have K := checkC hv
  have G := chkG qx qy
  unfold loc
  by_cases hE : pck n X Y ≠ 0
  · rw [if_pos hE]; exact loc_bad v qx qy _ w (Lib.hid K) (by simpa using hE) (by simpa using hE)
  · rw [if_neg hE]
    have hE := Classical.not_not.1 hE
    rw [hE] at K
    cases hg : goodB qx qy with
    | false => rw [if_pos rfl]; rw [hg, if_pos rfl] at G; exact loc_far v qx qy w (Lib.hid K) (Lib.hid G)
    | true =>
      rw [if_neg (by simp)]; rw [hg, if_neg (by simp)] at G
      exact loc_ok v qx qy _ w (Lib.hid K) (Lib.hid G) (Lib.hid (place_at hv hE (goodB_iff.1 hg)))
/-- polygon.Area's answer. -/
def area (n : Nat) (X Y : Nat → Int) : Int × Int := if pck n X Y ≠ 0 then (0, pck n X Y) else (asum n X Y n, 0)
/-- All of the first k edges are far. -/
def fars (n : Nat) (X Y : Nat → Int) (qx qy d : Int) : Nat → Bool
  | 0 => true
  | k + 1 => fars n X Y qx qy d k && farB (X k) (Y k) (X (nx n k)) (Y (nx n k)) qx qy d
theorem fars_stop {n : Nat} {X Y : Nat → Int} {qx qy d : Int} {k : Nat} (h : farB (X k) (Y k) (X (nx n k)) (Y (nx n k)) qx qy d = false) : ∀ m, k < m → fars n X Y qx qy d m = false
  | 0, hm => by omega
  | m + 1, hm => by
    show (fars n X Y qx qy d m && _) = false
    rcases Nat.lt_or_ge k m with hl | hl
    · rw [fars_stop h m hl]; rfl
    · rw [show m = k from by omega, h, Bool.and_false]
/-- polygon.Apart's answer. -/
def apart (n : Nat) (X Y : Nat → Int) (qx qy d : Int) : Bool × Int :=
  if pck n X Y ≠ 0 then (false, pck n X Y) else if goodB qx qy = false then (false, 4) else if d < 0 ∨ 1000000 < d then (false, 4) else if 0 ≤ place n X Y qx qy then (false, 0) else (fars n X Y qx qy d n, 0)
end Poly
end Go.Proofs.YteieagihdflapaaGreatDoor
namespace Go.Proofs.YteieagihdflapaaGreatDoor
open Go.RowKit
namespace Poly
open Kit Plane
abbrev S4 (w : World) (b : Nat) (t x y h : Int) : Prop := (w.cell? ⟨b, 0, none⟩ = some (.int .i64 t) ∧ w.cell? ⟨b, 1, none⟩ = some (.int .i64 x)) ∧ (w.cell? ⟨b, 2, none⟩ = some (.int .i64 y) ∧ w.cell? ⟨b, 3, none⟩ = some (.int .i64 h))
theorem s4_keep {W w1 : World} (hb : Below W.heap.size W w1) {b : Nat} {t x y h : Int} (hn : S4 W b t x y h) : S4 w1 b t x y h := ⟨⟨keep hb hn.1.1, keep hb hn.1.2⟩, ⟨keep hb hn.2.1, keep hb hn.2.2⟩⟩
theorem s4_new (w : World) (ty : TypeId) (t x y h : Int) : S4 (w.alloc (.cells #[.int .i64 t, .int .i64 x, .int .i64 y, .int .i64 h] ty)) w.heap.size t x y h := ⟨⟨by simp, by simp⟩, ⟨by simp, by simp⟩⟩
/-- One of the first k edges has a point in common with the segment. -/
def mee (n : Nat) (X Y : Nat → Int) (ax ay bx by' : Int) : Nat → Bool
  | 0 => false
  | k + 1 => mee n X Y ax ay bx by' k || commonB (X k) (Y k) (X (nx n k)) (Y (nx n k)) ax ay bx by'
theorem mee_stop {n : Nat} {X Y : Nat → Int} {ax ay bx by' : Int} {k : Nat} (h : commonB (X k) (Y k) (X (nx n k)) (Y (nx n k)) ax ay bx by' = true) : ∀ m, k < m → mee n X Y ax ay bx by' m = true
  | 0, hm => by omega
  | m + 1, hm => by
    show (mee n X Y ax ay bx by' m || _) = true
    rcases Nat.lt_or_ge k m with hl | hl
    · rw [mee_stop h m hl]; rfl
    · rw [show m = k from by omega, h, Bool.or_true]
abbrev CrCo (ax ay bx by' cx cy dx dy : Int) (b : Bool) : Prop := ∀ w, Calls Tryz.prog 145 #[.agg #[.int .i64 ax, .int .i64 ay], .agg #[.int .i64 bx, .int .i64 by'], .agg #[.int .i64 cx, .int .i64 cy], .agg #[.int .i64 dx, .int .i64 dy]] w fun e w' => e = .returned (.bool b) ∧ Below w.heap.size w w'
/-- polygon.Meets's answer. -/
def meets (n : Nat) (X Y : Nat → Int) (ax ay bx by' : Int) : Bool × Int :=
  if pck n X Y ≠ 0 then (false, pck n X Y) else if goodB ax ay = false ∨ goodB bx by' = false then (false, 4) else if 0 ≤ place n X Y ax ay then (true, 0) else (mee n X Y ax ay bx by' n, 0)
end Poly
end Go.Proofs.YteieagihdflapaaGreatDoor
namespace Go.Proofs.YteieagihdflapaaGreatDoor
open Go.RowKit
namespace Poly
open Kit Plane
def wX (k : Nat) : Int := if k = 1 ∨ k = 2 then 4 else 0
def wY (k : Nat) : Int := if k = 2 ∨ k = 3 then 4 else 0
theorem works_4 : apart 4 wX wY 7 8 4 = (true, 0) := by decide +kernel
theorem works_5 : apart 4 wX wY 7 8 5 = (false, 0) := by decide +kernel
end Poly
end Go.Proofs.YteieagihdflapaaGreatDoor
namespace Go.Proofs.YteieagihdflapaaGreatDoor
open Go.RowKit
namespace Vol
open Kit Plane Poly
/-- A volume in memory. -/
structure V3 (w : World) (b : Nat) (v : Value) (low high : Int) : Prop where
  c0 : w.cell? ⟨b, 0, none⟩ = some v
  c1 : w.cell? ⟨b, 1, none⟩ = some (.int .i64 low)
  c2 : w.cell? ⟨b, 2, none⟩ = some (.int .i64 high)
theorem v3_new (w : World) (ty : TypeId) (v : Value) (low high : Int) : V3 (w.alloc (.cells #[v, .int .i64 low, .int .i64 high] ty)) w.heap.size v low high := ⟨by simp, by simp, by simp⟩
theorem v3_keep {W w1 : World} (hb : Below W.heap.size W w1) {b : Nat} {v : Value} {low high : Int} (h : V3 W b v low high) : V3 w1 b v low high := ⟨keep hb h.c0, keep hb h.c1, keep hb h.c2⟩
/-- volume.Check's error, that of the area being E. -/
def vck (E low high : Int) : Int := if E ≠ 0 then E else if low < 0 ∨ 60001 < high ∨ high ≤ low then 4 else 0
set_option maxHeartbeats 2000000 in
theorem vcheck (A : Option Addr) (n cap : Nat) (E low high : Int) (w : World) (K : Hid (CkC (.slice A n cap) E w)) :
    Calls Tryz.prog 58 #[.agg #[.slice A n cap, .int .i64 low, .int .i64 high]] w fun e w' => e = .returned (.int .i64 (vck E low high)) ∧ Below w.heap.size w w' := by
  have H3 := Lib.hid (v3_new w 64 (.slice A n cap) low high)
  have HW := Lib.hid (b_alloc (Below.refl w.heap.size w) (.cells #[.slice A n cap, .int .i64 low, .int .i64 high] 64))
  obtain ⟨R, hR⟩ : ∃ R, R = vck E low high := ⟨_, rfl⟩
  rw [← hR]
  unfold vck at hR
  have HR := Lib.hid hR; clear hR
  go_enter Tryz.func58, Tryz.ntmps58
  go_wp2_with fail
  (with_reducible refine (K.out _ HW.out).mono ?_); rintro e w1 ⟨rfl, hb⟩
  have W1 := Lib.hid (b_next HW.out hb); obtain ⟨c0, c1, c2⟩ := v3_keep hb H3.out; clear hb
  by_cases hE : E = 0
  · subst hE
    have hr := HR.out
    rw [if_neg (by decide)] at hr
    by_cases h : low < 0 ∨ 60001 < high ∨ high ≤ low
    · rw [if_pos h] at hr
      subst hr
      clear HR
      go_wp2_with fail
      all_goals first | (exfalso; omega) | (go_ret; exact ⟨rfl, W1.out⟩)
    · rw [if_neg h] at hr
      subst hr
      clear HR
      go_wp2_with fail
      all_goals first | (exfalso; omega) | (go_ret; exact ⟨rfl, W1.out⟩)
  · have hr := HR.out
    rw [if_pos hE] at hr
    subst hr
    have e1 : (R == 0) = false := by simp [hE]
    have e2 : (R != 0) = true := by simp [hE]
    clear HR
    go_wp2_with fail
    all_goals (go_ret; exact ⟨rfl, W1.out⟩)
theorem ret2 {a b : Bool} {E : Int} (h : a = b) : Ending.returned (.tuple #[.bool a, .int .i64 E]) = Ending.returned (.tuple #[.bool b, .int .i64 E]) := by rw [h]
/-- What volume.Has says. -/
def hasV (E low high qx qy h p : Int) : Bool × Int := if vck E low high ≠ 0 then (false, vck E low high) else if goodB qx qy = false then (false, 4) else if h < 0 ∨ 60000 < h then (false, 4) else (decide (0 ≤ p ∧ low ≤ h ∧ h < high), 0)
set_option maxHeartbeats 4000000 in
theorem has_w (A : Option Addr) (n cap : Nat) (E low high qx qy h p : Int) (w : World) (K : Hid (∀ w1, Below w.heap.size w w1 → Calls Tryz.prog 58 #[.agg #[.slice A n cap, .int .i64 low, .int .i64 high]] w1 fun e w' => e = .returned (.int .i64 (vck E low high)) ∧ Below w1.heap.size w1 w'))
    (G : Hid (Chk qx qy (if goodB qx qy = false then 4 else 0))) (LO : Hid (vck E low high = 0 → goodB qx qy = true → ∀ w1, Below w.heap.size w w1 → Calls Tryz.prog 60 #[.slice A n cap, .agg #[.int .i64 qx, .int .i64 qy]] w1 fun e w' => e = .returned (.tuple #[.int .i64 p, .int .i64 0]) ∧ Below w1.heap.size w1 w')) :
    Calls Tryz.prog 17 #[.agg #[.slice A n cap, .int .i64 low, .int .i64 high], .agg #[.int .i64 qx, .int .i64 qy], .int .i64 h] w fun e w' => e = .returned (.tuple #[.bool (hasV E low high qx qy h p).1, .int .i64 (hasV E low high qx qy h p).2]) ∧ Below w.heap.size w w' := by
  have H3 := Lib.hid (v3_keep (b_alloc (Below.refl _ _) (.cells #[.int .i64 qx, .int .i64 qy] 54)) (v3_new w 64 (.slice A n cap) low high))
  have HP := Lib.hid (p2_new (w.alloc (.cells #[.slice A n cap, .int .i64 low, .int .i64 high] 64)) 54 qx qy)
  have HW := Lib.hid (b_alloc (b_alloc (Below.refl w.heap.size w) (.cells #[.slice A n cap, .int .i64 low, .int .i64 high] 64)) (.cells #[.int .i64 qx, .int .i64 qy] 54))
  have hp2 := HP.out
  rw [World.size_alloc] at hp2
  have HP2 := Lib.hid hp2; clear hp2 HP
  obtain ⟨R, hR⟩ : ∃ R, R = hasV E low high qx qy h p := ⟨_, rfl⟩
  rw [← hR]
  unfold hasV at hR
  generalize vck E low high = V at *
  have HR := Lib.hid hR; clear hR
  go_enter Tryz.func17, Tryz.ntmps17
  go_wp2_with fail
  (with_reducible refine (K.out _ HW.out).mono ?_); rintro e w1 ⟨rfl, hb⟩
  have W1 := Lib.hid (b_next HW.out hb); have V1 := Lib.hid (v3_keep hb H3.out); have P1 := Lib.hid (p2_keep hb HP2.out); clear hb
  obtain ⟨p0, p1⟩ := P1.out
  by_cases hV : V = 0
  · subst hV
    go_wp2_with fail
    (with_reducible refine (G.out _).mono ?_); rintro e w2 ⟨rfl, hb⟩
    have W2 := Lib.hid (b_next W1.out hb); have V2 := Lib.hid (v3_keep hb V1.out); have P2 := Lib.hid (p2_keep hb P1.out); clear hb p0 p1
    cases hg : goodB qx qy with
    | false =>
      have hr := HR.out
      rw [if_neg (by decide), if_pos hg] at hr
      subst hr
      clear HR
      rw [if_pos rfl]
      go_wp2_with fail
      all_goals (go_ret2; exact ⟨rfl, W2.out⟩)
    | true =>
      have hr := HR.out
      rw [if_neg (by decide), if_neg (by rw [hg]; decide)] at hr
      rw [if_neg (by decide)]
      have LL := Lib.hid (LO.out trivial hg)
      clear HR
      by_cases hh : h < 0 ∨ 60000 < h
      · rw [if_pos hh] at hr
        subst hr
        go_wp2_with fail
        all_goals first | (exfalso; omega) | (go_ret2; exact ⟨rfl, W2.out⟩)
      · rw [if_neg hh] at hr
        subst hr
        obtain ⟨c0, c1, c2⟩ := V2.out
        obtain ⟨p0, p1⟩ := P2.out
        have g1 : ¬ h < 0 := by omega
        have g2 : ¬ 60000 < h := by omega
        go_wp2_with fail
        (with_reducible refine (LL.out _ W2.out).mono ?_); rintro e w3 ⟨rfl, hb⟩
        have W3 := Lib.hid (b_next W2.out hb); clear c0 c1 c2
        obtain ⟨c0, c1, c2⟩ := v3_keep hb V2.out
        clear hb p0 p1
        by_cases x1 : 0 ≤ p <;> by_cases x2 : low ≤ h <;> by_cases x3 : h < high <;> (go_wp2_with fail) <;> first | (exfalso; omega) | (go_ret2; exact ⟨rfl, W3.out⟩) | (go_ret2; exact ⟨ret2 (by first | grind | simp_all), W3.out⟩)
  · have hr := HR.out
    rw [if_pos hV] at hr
    subst hr
    have e1 : (V == 0) = false := by simp [hV]
    have e2 : (V != 0) = true := by simp [hV]
    clear HR
    go_wp2_with fail
    all_goals (go_ret2; exact ⟨rfl, W1.out⟩)
theorem hasC {v : Value} {n : Nat} {X Y : Nat → Int} {w : World} (hv : QV w v n X Y) (low high qx qy h : Int) :
    Calls Tryz.prog 17 #[.agg #[v, .int .i64 low, .int .i64 high], .agg #[.int .i64 qx, .int .i64 qy], .int .i64 h] w fun e w' => e = .returned (.tuple #[.bool (hasV (pck n X Y) low high qx qy h (place n X Y qx qy)).1, .int .i64 (hasV (pck n X Y) low high qx qy h (place n X Y qx qy)).2]) ∧ Below w.heap.size w w' := by
  obtain ⟨A, cap, rfl, -, -⟩ := qv_slice hv
  refine has_w A n cap (pck n X Y) low high qx qy h (place n X Y qx qy) w (Lib.hid fun w1 hb => vcheck A n cap _ low high w1 (Lib.hid (checkC (qv_keep hb hv)))) (Lib.hid (chkG qx qy)) (Lib.hid fun h1 h2 w1 hb => ?_)
  have hp : pck n X Y = 0 := by
    unfold vck at h1
    by_cases hc : pck n X Y = 0
    · exact hc
    · rw [if_pos hc] at h1; exact h1
  have := locC (qv_keep hb hv) qx qy
  unfold loc at this
  rw [if_neg (fun h => h hp), if_neg (by rw [h2]; decide)] at this
  exact this
end Vol
end Go.Proofs.YteieagihdflapaaGreatDoor
namespace Go.Proofs.YteieagihdflapaaGreatDoor
open Go.RowKit
namespace Route
open Kit Plane Poly Chart Vol
/-- What a volume on a route is. -/
structure Vd where
  N : ByteArray
  l : Int
  h : Int
  n : Nat
  X : Nat → Int
  Y : Nat → Int
  m : Nat
  F : Nat → Int
  T : Nat → Int
/-- One volume. -/
structure R5 (w : World) (b off k : Nat) (s : ByteArray) (a : Value) (l h : Int) (c : Value) : Prop where
  c0 : w.cell? ⟨b, off + k * 5, none⟩ = some (.string s)
  c1 : w.cell? ⟨b, off + k * 5 + 1, none⟩ = some a
  c2 : w.cell? ⟨b, off + k * 5 + 2, none⟩ = some (.int .i64 l)
  c3 : w.cell? ⟨b, off + k * 5 + 3, none⟩ = some (.int .i64 h)
  c4 : w.cell? ⟨b, off + k * 5 + 4, none⟩ = some c
theorem r5_keep {W w1 : World} (hb : Below W.heap.size W w1) {b off k : Nat} {s : ByteArray} {a c : Value} {l h : Int} (x : R5 W b off k s a l h c) : R5 w1 b off k s a l h c := ⟨keep hb x.c0, keep hb x.c1, keep hb x.c2, keep hb x.c3, keep hb x.c4⟩
/-- One volume, whole. -/
def RvAt (w : World) (b off k : Nat) (d : Vd) : Prop := ∃ a c, R5 w b off k d.N a d.l d.h c ∧ QV w a d.n d.X d.Y ∧ QV w c d.m d.F d.T
theorem rvat_keep {W w1 : World} (hb : Below W.heap.size W w1) {b off k : Nat} {d : Vd} (h : RvAt W b off k d) : RvAt w1 b off k d := by
  obtain ⟨a, c, h1, h2, h3⟩ := h
  exact ⟨a, c, r5_keep hb h1, qv_keep hb h2, qv_keep hb h3⟩
/-- Volumes. -/
def RV (w : World) (v : Value) (n : Nat) (D : Nat → Vd) : Prop :=
  (n = 0 ∧ Nil0 v) ∨ (0 < n ∧ ∃ b off cap, v = .slice (some ⟨b, off, none⟩) n cap ∧ n ≤ cap ∧ cap ≤ maxLen ∧ ∀ k, k < n → RvAt w b off k (D k))
theorem rv_keep {W w1 : World} (hb : Below W.heap.size W w1) {v : Value} {n : Nat} {D : Nat → Vd} (h : RV W v n D) : RV w1 v n D := by
  rcases h with h | ⟨h0, b, off, cap, hv, h1, h2, h3⟩
  · exact Or.inl h
  · exact Or.inr ⟨h0, b, off, cap, hv, h1, h2, fun k hk => rvat_keep hb (h3 k hk)⟩
theorem rv_at {w : World} {v : Value} {n : Nat} {D : Nat → Vd} (h : RV w v n D) (h0 : 0 < n) : ∃ b off cap, v = .slice (some ⟨b, off, none⟩) n cap ∧ n ≤ cap ∧ cap ≤ maxLen ∧ ∀ k, k < n → RvAt w b off k (D k) := by
  rcases h with ⟨h1, -⟩ | ⟨-, h⟩
  · omega
  · exact h
theorem rv_slice {w : World} {v : Value} {n : Nat} {D : Nat → Vd} (h : RV w v n D) : ∃ A cap, v = .slice A n cap ∧ n ≤ cap ∧ cap ≤ maxLen := by
  rcases h with ⟨rfl, rfl | ⟨a, cap, rfl, hm⟩⟩ | ⟨h0, b, off, cap, rfl, h1, h2, h3⟩
  · exact ⟨_, _, rfl, Nat.le_refl _, Nat.zero_le _⟩
  · exact ⟨_, _, rfl, Nat.zero_le _, hm⟩
  · exact ⟨_, _, rfl, h1, h2⟩
theorem rv_take {w : World} {b off cap n : Nat} {D : Nat → Vd} (h : ∀ k, k < n → RvAt w b off k (D k)) (hc : n ≤ cap) (hm : cap ≤ maxLen) {k : Nat} (hk : k ≤ n) : RV w (.slice (some ⟨b, off, none⟩) k cap) k D := by
  rcases Nat.eq_zero_or_pos k with rfl | h0
  · exact Or.inl ⟨rfl, Or.inr ⟨_, _, rfl, hm⟩⟩
  · exact Or.inr ⟨h0, b, off, cap, rfl, by omega, hm, fun j hj => h j (by omega)⟩
/-- An argument of volumes. -/
theorem rv_of {W : World} {v : Value} (h : Frame.Okc W (.sl [.str, .sl [.int, .int], .int, .int, .sl [.int, .int]]) v) : ∃ n D, RV W v n D := by
  rcases Frame.Okc.sl_inv h with rfl | ⟨a, cap, rfl, hc⟩ | ⟨b, off, len, cap, cells, rfl, h0, h1, h2, h3, h4⟩
  · exact ⟨0, fun _ => ⟨⟨#[]⟩, 0, 0, 0, fun _ => 0, fun _ => 0, 0, fun _ => 0, fun _ => 0⟩, Or.inl ⟨rfl, Or.inl rfl⟩⟩
  · exact ⟨0, fun _ => ⟨⟨#[]⟩, 0, 0, 0, fun _ => 0, fun _ => 0, 0, fun _ => 0, fun _ => 0⟩, Or.inl ⟨rfl, Or.inr ⟨_, _, rfl, hc⟩⟩⟩
  · have one : ∀ i, i < len → ∃ d, RvAt W b off i d := fun i hi => by
      obtain ⟨s, e0, -⟩ := (h4 i hi 0 (by decide)).str_inv
      obtain ⟨n, X, Y, q1, -⟩ := qv_of (h4 i hi 1 (by decide))
      obtain ⟨l, e2, -⟩ := (h4 i hi 2 (by decide)).int_inv
      obtain ⟨u, e3, -⟩ := (h4 i hi 3 (by decide)).int_inv
      obtain ⟨m, F, T, q4, -⟩ := qv_of (h4 i hi 4 (by decide))
      exact ⟨⟨s, l, u, n, X, Y, m, F, T⟩, _, _, ⟨by rw [← e0]; exact h3 i hi 0 (by decide), h3 i hi 1 (by decide), by rw [← e2]; exact h3 i hi 2 (by decide), by rw [← e3]; exact h3 i hi 3 (by decide), h3 i hi 4 (by decide)⟩, q1, q4⟩
    classical
    refine ⟨len, fun i => if h : i < len then Classical.choose (one i h) else ⟨⟨#[]⟩, 0, 0, 0, fun _ => 0, fun _ => 0, 0, fun _ => 0, fun _ => 0⟩, Or.inr ⟨h0, b, off, cap, rfl, h1, h2, fun k hk => ?_⟩⟩
    simp only [dif_pos hk]
    exact Classical.choose_spec (one k hk)
theorem vclos (s q : ByteArray) (A C : Option Addr) (n c m d : Nat) (l h : Int) (b : Nat) (w : World) (hq : w.cell? ⟨b, 0, none⟩ = some (.string q)) :
    Calls Tryz.prog 106 #[.agg #[.string s, .slice A n c, .int .i64 l, .int .i64 h, .slice C m d], .pointer (some ⟨b, 0, none⟩)] w fun e w' => e = .returned (.bool (decide (s = q))) ∧ Below w.heap.size w w' := by
  have W1 := Lib.hid (b_alloc (Below.refl w.heap.size w) (.cells #[.string s, .slice A n c, .int .i64 l, .int .i64 h, .slice C m d] 66))
  have q1 := keep W1.out hq
  go_enter Tryz.func106, Tryz.ntmps106
  go_wp2_with fail
  go_ret
  exact ⟨Chart.b_eq (seq_eq s q), W1.out⟩
set_option maxHeartbeats 1000000 in
theorem vidx_none (A : Option Addr) (cap : Nat) (f : Value) (w : World) :
    Calls Tryz.prog 141 #[.slice A 0 cap, f] w fun e w' => e = .returned (.int .i64 (-1)) ∧ Below w.heap.size w w' := by
  go_enter Tryz.func141, Tryz.ntmps141
  go_wp2_with fail
  go_loopw [8] (fun s wr => s = .int .i64 0 ∧ Below w.heap.size w wr) (fun _ _ => 0)
  case atStart => exact ⟨rfl, Below.refl _ _⟩
  case round =>
    obtain ⟨rfl, hbl⟩ := hrel
    go_wp2_with fail
    all_goals (go_ret; exact ⟨rfl, hbl⟩)
set_option maxRecDepth 100000 in
set_option maxHeartbeats 2000000 in
theorem vidx (n cap b off pb : Nat) (D : Nat → Vd) (s : ByteArray) (w : World) (hm : cap ≤ 9223372036854775807) (hc : n ≤ cap) (HV : Hid (∀ k, k < n → RvAt w b off k (D k))) (HQ : Hid (w.cell? ⟨pb, 0, none⟩ = some (.string s))) :
    Calls Tryz.prog 141 #[.slice (some ⟨b, off, none⟩) n cap, .func (.func 106) #[] #[.pointer (some ⟨pb, 0, none⟩)]] w fun e w' => e = .returned (.int .i64 (fix (fun k => (D k).N) s n)) ∧ Below w.heap.size w w' := by
  go_enter Tryz.func141, Tryz.ntmps141
  obtain ⟨r, hr⟩ : ∃ r, r = fix (fun k => (D k).N) s n := ⟨_, rfl⟩
  rw [← hr]
  have HR := Lib.hid hr; clear hr
  go_wp2_with fail
  go_loopw [5, 8] (fun _ t wr => ∃ k : Nat, k ≤ n ∧ t = .int .i64 k ∧ (∀ j, j < k → decide ((D j).N = s) = false) ∧ Below w.heap.size w wr) (fun _ t _ => n - (intOf t).toNat)
  case atStart => exact ⟨0, Nat.zero_le _, rfl, fun j hj => absurd hj (Nat.not_lt_zero j), Below.refl _ _⟩
  case round =>
    obtain ⟨k, hk, rfl, hno, hbl⟩ := hrel
    have HN := Lib.hid hno; have HB := Lib.hid hbl; clear hno
    by_cases hlt : k < n
    · obtain ⟨va, vc, ⟨c0, c1, c2, c3, c4⟩, qa, qc⟩ := rvat_keep hbl (HV.out k hlt)
      have hl : (k : Int) < (n : Int) := by omega
      obtain ⟨A, ca, rfl, -⟩ := qv_slice qa
      obtain ⟨C, cc, rfl, -⟩ := qv_slice qc
      have hcall := vclos (D k).N s A C (D k).n ca (D k).m cc (D k).l (D k).h pb wr (keep hbl HQ.out)
      have HS := Lib.hid (show ∀ hh : decide ((D k).N = s) = false, ∀ j, j < k + 1 → decide ((D j).N = s) = false from fun hh j hj => by
        rcases Nat.lt_or_ge j k with hl | hl
        · exact HN.out j hl
        · rw [show j = k from by omega]; exact hh)
      have HT := Lib.hid (show ∀ hh : decide ((D k).N = s) = true, r = k from fun hh => by rw [HR.out]; exact fnd_at HN.out hh n hlt)
      clear hbl qa qc
      generalize D k = d at *
      obtain ⟨dN, dl, dh, dn, dX, dY, dm, dF, dT⟩ := d
      dsimp only at *
      generalize decide (dN = s) = dd at *
      cases dd with
      | true =>
        have e := HT.out rfl
        subst e
        go_wp2_with fail
        (with_reducible refine hcall.mono ?_); rintro e w' ⟨rfl, hb'⟩
        go_wp2_with fail
        go_ret
        exact ⟨rfl, b_next HB.out hb'⟩
      | false =>
        go_wp2_with fail
        (with_reducible refine hcall.mono ?_); rintro e w' ⟨rfl, hb'⟩
        go_wp2_with fail
        exact ⟨⟨k + 1, by omega, by go_num, (by first | exact HS.out rfl | exact HS.out trivial), b_next HB.out hb'⟩, by simp [intOf]; omega⟩
    · have he : k = n := by omega
      have hl : ¬ (k : Int) < (n : Int) := by omega
      have e : r = -1 := by rw [HR.out]; exact fnd_no (fun j hj => HN.out j (by omega))
      subst e
      clear hbl
      go_wp2_with fail
      go_ret
      exact ⟨rfl, HB.out⟩
theorem vidxC {v : Value} {n : Nat} {D : Nat → Vd} {w : World} (hv : RV w v n D) (pb : Nat) (s : ByteArray) (hq : w.cell? ⟨pb, 0, none⟩ = some (.string s)) :
    Calls Tryz.prog 141 #[v, .func (.func 106) #[] #[.pointer (some ⟨pb, 0, none⟩)]] w fun e w' => e = .returned (.int .i64 (fix (fun k => (D k).N) s n)) ∧ Below w.heap.size w w' := by
  rcases hv with ⟨rfl, h⟩ | ⟨h0, b, off, cap, rfl, hc, hm, HV⟩
  · rcases h with rfl | ⟨a, cap, rfl, -⟩
    · exact vidx_none none 0 _ w
    · exact vidx_none (some a) cap _ w
  · exact vidx n cap b off pb D s w (Nat.le_trans hm (by decide)) hc (Lib.hid HV) (Lib.hid hq)
set_option maxHeartbeats 1000000 in
theorem vcont_w (v f : Value) (r : Int) (w : World) (H : Hid (∀ w1, Below w.heap.size w w1 → Calls Tryz.prog 141 #[v, f] w1 fun e w' => e = .returned (.int .i64 r) ∧ Below w1.heap.size w1 w')) :
    Calls Tryz.prog 105 #[v, f] w fun e w' => e = .returned (.bool (decide (0 ≤ r))) ∧ Below w.heap.size w w' := by
  go_enter Tryz.func105, Tryz.ntmps105
  go_wp2_with fail
  (with_reducible refine (H.out _ (Below.refl _ _)).mono ?_); rintro e w1 ⟨rfl, hb⟩
  have HB := Lib.hid hb; clear hb
  go_wp2_with fail
  all_goals (go_ret; exact ⟨rfl, HB.out⟩)
theorem vcontC {v : Value} {n : Nat} {D : Nat → Vd} {w : World} (hv : RV w v n D) (pb : Nat) (s : ByteArray) (hq : w.cell? ⟨pb, 0, none⟩ = some (.string s)) :
    Calls Tryz.prog 105 #[v, .func (.func 106) #[] #[.pointer (some ⟨pb, 0, none⟩)]] w fun e w' => e = .returned (.bool (decide (0 ≤ fix (fun k => (D k).N) s n))) ∧ Below w.heap.size w w' :=
  vcont_w v _ _ w (Lib.hid fun _ hb => vidxC (rv_keep hb hv) pb s (keep hb hq))
end Route
end Go.Proofs.YteieagihdflapaaGreatDoor
