/- Joined texts: TubeI, TubeL, InsQ, ProbeC, Span. -/
import Derived.Test.YteieagihdflapaaGreatDoorJ34
import Derived.Test.YteieagihdflapaaGreatDoorJ02
namespace Go.Proofs.YteieagihdflapaaGreatDoor
open Go.RowKit
namespace Tube
open Kit Plane
/-- The last node that is not later than t. -/
def segI (T : Nat → Int) : Nat → Int → Nat
  | 0, _ => 0
  | n + 1, t => if T n ≤ t then n else segI T n t
theorem segI_spec {T : Nat → Int} {t : Int} : ∀ {n : Nat}, 0 < n → T 0 ≤ t → tseg T n t (segI T n t) := by
  intro n
  induction n with
  | zero => intro h; exact absurd h (by omega)
  | succ n ih =>
    intro _ h0
    show tseg T (n + 1) t (if T n ≤ t then n else segI T n t)
    by_cases hl : T n ≤ t
    · rw [if_pos hl]; exact ⟨by omega, hl, fun h => by omega⟩
    · rw [if_neg hl]
      rcases Nat.eq_zero_or_pos n with hn | hn
      · subst hn; omega
      · obtain ⟨h1, h2, h3⟩ := ih hn h0
        refine ⟨by omega, h2, fun h => ?_⟩
        rcases Nat.lt_or_ge (segI T n t + 1) n with h4 | h4
        · exact h3 h4
        · rw [show segI T n t + 1 = n from by omega]; omega
/-- Two slices of slices, one behind the other. -/
abbrev Q2 (w : World) (b : Nat) (u v : Value) : Prop := w.cell? ⟨b, 0, none⟩ = some u ∧ w.cell? ⟨b, 1, none⟩ = some v
theorem q2_keep {W w1 : World} (hb : Below W.heap.size W w1) {b : Nat} {u v : Value} (h : Q2 W b u v) : Q2 w1 b u v := ⟨keep hb h.1, keep hb h.2⟩
theorem q2_new (w : World) (t : TypeId) (u v : Value) : Q2 (w.alloc (.cells #[u, v] t)) w.heap.size u v := ⟨by simp, by simp⟩
/-- One node lies in another one. -/
def inN (x y h r d x' y' h' r' d' : Int) : Bool := decide (dup (sqr x y x' y') + r ≤ r') && decide (max (h - h') (h' - h) + d ≤ d')
/-- At a time one tube lies in the other. -/
def inT (T X Y H R B : Nat → Int) (n : Nat) (T' X' Y' H' R' B' : Nat → Int) (n' : Nat) (t : Int) : Bool :=
  inN (tx T X (segI T n t) t) (tx T Y (segI T n t) t) (th T H (segI T n t) t) (tu T R (segI T n t) t) (tu T B (segI T n t) t)
    (tx T' X' (segI T' n' t) t) (tx T' Y' (segI T' n' t) t) (th T' H' (segI T' n' t) t) (tu T' R' (segI T' n' t) t) (tu T' B' (segI T' n' t) t)
/-- No answer, or one that is right at all times. -/
def InPost (z z' : Int) (C : Int → Bool) (e : Ending) : Prop := ∃ c : Bool, e = .returned (.tuple #[.bool c, .int .i64 0]) ∧ (c = true ↔ ∀ t, z ≤ t → t ≤ z' → C t = true)
theorem in_no {z z' : Int} {C : Int → Bool} {t : Int} (h1 : z ≤ t) (h2 : t ≤ z') (h : C t = false) : InPost z z' C (.returned (.tuple #[.bool false, .int .i64 0])) :=
  ⟨false, rfl, fun e => (by cases e), fun e => by rw [e t h1 h2] at h; cases h⟩
theorem in_yes {z z' : Int} {C : Int → Bool} (h : ∀ t, z ≤ t → t ≤ z' → C t = true) : InPost z z' C (.returned (.tuple #[.bool true, .int .i64 0])) := ⟨true, rfl, fun _ => h, fun _ => rfl⟩
/-- What a call of at yields at a time. -/
abbrev NdC (v : Value) (w : World) (a z : Int) (x y h r d : Int → Int) : Prop := ∀ w1, Below w.heap.size w w1 → ∀ t, a ≤ t → t ≤ z → Calls Tryz.prog 34 #[v, .int .i64 t] w1 fun e w' => e = .returned (.agg #[.int .i64 t, .int .i64 (x t), .int .i64 (y t), .int .i64 (h t), .int .i64 (r t), .int .i64 (d t)]) ∧ Below w1.heap.size w1 w'
/-- The numbers of a node that is interpolated. -/
abbrev NdB (a z : Int) (x y h r d : Int → Int) : Prop := ∀ t, a ≤ t → t ≤ z → (-1000000 ≤ x t ∧ x t ≤ 1000000 ∧ -1000000 ≤ y t ∧ y t ≤ 1000000) ∧ (0 ≤ h t ∧ h t ≤ 60000) ∧ (0 ≤ r t ∧ r t ≤ 1000000) ∧ (0 ≤ d t ∧ d t ≤ 60000)
theorem ge1 {E : Int} (h : E ≠ 0) : (E == 0) = false ∧ (E != 0) = true := by constructor <;> simp [h]
abbrev EnC (v : Value) (w : World) (a z : Int) : Prop := ∀ w1, Below w.heap.size w w1 → Calls Tryz.prog 33 #[v] w1 fun e w' => e = .returned (.tuple #[.int .i64 a, .int .i64 z]) ∧ Below w1.heap.size w1 w'
set_option maxRecDepth 100000 in
set_option maxHeartbeats 4000000 in
theorem inside_bad1 (A A' : Option Addr) (m m' c c' : Nat) (E : Int) (w : World) (C1 : Hid (CkC (.slice A m c) E w)) (hE : E ≠ 0) :
    Calls Tryz.prog 11 #[.slice A m c, .slice A' m' c'] w fun e w' => e = .returned (.tuple #[.bool false, .int .i64 E]) ∧ Below w.heap.size w w' := by
  obtain ⟨hE1, hE2⟩ := ge1 hE; clear hE
  go_enter Tryz.func11, Tryz.ntmps11
  have HQ := Lib.hid (q2_new w 23 (.slice A m c) (.slice A' m' c'))
  have HW := Lib.hid (b_alloc (Below.refl w.heap.size w) (.cells #[.slice A m c, .slice A' m' c'] 23))
  go_wp2_with fail
  go_loopw [22] (fun s wr => s = .int .i64 0 ∧ Q2 wr w.heap.size (.slice A m c) (.slice A' m' c') ∧ Below w.heap.size w wr) (fun _ _ => 0)
  case atStart => exact ⟨rfl, HQ.out, HW.out⟩
  case round =>
    obtain ⟨rfl, ⟨q0, q1⟩, hbl⟩ := hrel
    go_wp2_with fail
    (with_reducible refine (C1.out _ hbl).mono ?_); rintro e w1 ⟨rfl, h⟩
    have hw := b_next hbl h; clear h
    go_wp2_with fail
    go_ret2
    exact ⟨rfl, hw⟩
set_option maxRecDepth 100000 in
set_option maxHeartbeats 4000000 in
theorem inside_bad2 (A A' : Option Addr) (m m' c c' : Nat) (E : Int) (w : World) (C1 : Hid (CkC (.slice A m c) 0 w)) (C2 : Hid (CkC (.slice A' m' c') E w)) (hE : E ≠ 0) :
    Calls Tryz.prog 11 #[.slice A m c, .slice A' m' c'] w fun e w' => e = .returned (.tuple #[.bool false, .int .i64 E]) ∧ Below w.heap.size w w' := by
  obtain ⟨hE1, hE2⟩ := ge1 hE; clear hE
  go_enter Tryz.func11, Tryz.ntmps11
  have HQ := Lib.hid (q2_new w 23 (.slice A m c) (.slice A' m' c'))
  have HW := Lib.hid (b_alloc (Below.refl w.heap.size w) (.cells #[.slice A m c, .slice A' m' c'] 23))
  go_wp2_with fail
  go_loopw [22] (fun s wr => (s = .int .i64 0 ∨ s = .int .i64 1) ∧ Q2 wr w.heap.size (.slice A m c) (.slice A' m' c') ∧ Below w.heap.size w wr) (fun s _ => 1 - (intOf s).toNat)
  case atStart => exact ⟨Or.inl rfl, HQ.out, HW.out⟩
  case round =>
    obtain ⟨rfl | rfl, ⟨q0, q1⟩, hbl⟩ := hrel
    · go_wp2_with fail
      (with_reducible refine (C1.out _ hbl).mono ?_); rintro e w1 ⟨rfl, h⟩
      have HQ1 := Lib.hid (q2_keep h ⟨q0, q1⟩); have HW1 := Lib.hid (b_next hbl h); clear h hbl
      go_wp2_with fail
      go_roundw
      case rel => exact ⟨Or.inr rfl, HQ1.out, HW1.out⟩
      case measure => simp [intOf]
    · go_wp2_with fail
      (with_reducible refine (C2.out _ hbl).mono ?_); rintro e w1 ⟨rfl, h⟩
      have hw := b_next hbl h; clear h
      go_wp2_with fail
      go_ret2
      exact ⟨rfl, hw⟩
set_option maxRecDepth 100000 in
set_option maxHeartbeats 4000000 in
theorem inside_out (A A' : Option Addr) (m m' c c' : Nat) (a z a' z' : Int) (w : World) (C1 : Hid (CkC (.slice A m c) 0 w)) (C2 : Hid (CkC (.slice A' m' c') 0 w)) (N1 : Hid (EnC (.slice A m c) w a z)) (N2 : Hid (EnC (.slice A' m' c') w a' z')) (hx : a < a' ∨ z' < z) :
    Calls Tryz.prog 11 #[.slice A m c, .slice A' m' c'] w fun e w' => e = .returned (.tuple #[.bool false, .int .i64 0]) ∧ Below w.heap.size w w' := by
  go_enter Tryz.func11, Tryz.ntmps11
  have HQ := Lib.hid (q2_new w 23 (.slice A m c) (.slice A' m' c'))
  have HW := Lib.hid (b_alloc (Below.refl w.heap.size w) (.cells #[.slice A m c, .slice A' m' c'] 23))
  go_wp2_with fail
  go_loopw [22] (fun s wr => (s = .int .i64 0 ∨ s = .int .i64 1 ∨ s = .int .i64 2) ∧ Q2 wr w.heap.size (.slice A m c) (.slice A' m' c') ∧ Below w.heap.size w wr) (fun s _ => 2 - (intOf s).toNat)
  case atStart => exact ⟨Or.inl rfl, HQ.out, HW.out⟩
  case round =>
    obtain ⟨rfl | rfl | rfl, ⟨q0, q1⟩, hbl⟩ := hrel
    · go_wp2_with fail
      (with_reducible refine (C1.out _ hbl).mono ?_); rintro e w1 ⟨rfl, h⟩
      have HQ1 := Lib.hid (q2_keep h ⟨q0, q1⟩); have HW1 := Lib.hid (b_next hbl h); clear h hbl
      go_wp2_with fail
      go_roundw
      case rel => exact ⟨Or.inr (Or.inl rfl), HQ1.out, HW1.out⟩
      case measure => simp [intOf]
    · go_wp2_with fail
      (with_reducible refine (C2.out _ hbl).mono ?_); rintro e w1 ⟨rfl, h⟩
      have HQ1 := Lib.hid (q2_keep h ⟨q0, q1⟩); have HW1 := Lib.hid (b_next hbl h); clear h hbl
      go_wp2_with fail
      go_roundw
      case rel => exact ⟨Or.inr (Or.inr rfl), HQ1.out, HW1.out⟩
      case measure => simp [intOf]
    · have HW1 := Lib.hid hbl; clear hbl q0 q1
      go_wp2_with fail
      (with_reducible refine (N1.out _ HW1.out).mono ?_); rintro e w1 ⟨rfl, h⟩
      have HW2 := Lib.hid (b_next HW1.out h); clear h
      go_wp2_with fail
      (with_reducible refine (N2.out _ HW2.out).mono ?_); rintro e w2 ⟨rfl, h⟩
      have HW3 := Lib.hid (b_next HW2.out h); clear h
      go_wp2_with fail
      all_goals first | (exfalso; omega) | (go_ret2; exact ⟨rfl, HW3.out⟩)
set_option maxRecDepth 100000 in
set_option maxHeartbeats 8000000 in
theorem inside_walk (A A' : Option Addr) (m m' c c' : Nat) (a z a' z' : Int) (x y h r d x' y' h' r' d' : Int → Int) (Cf : Int → Bool) (HC : Hid (∀ t, Cf t = inN (x t) (y t) (h t) (r t) (d t) (x' t) (y' t) (h' t) (r' t) (d' t))) (w : World) (C1 : Hid (CkC (.slice A m c) 0 w)) (C2 : Hid (CkC (.slice A' m' c') 0 w)) (N1 : Hid (EnC (.slice A m c) w a z)) (N2 : Hid (EnC (.slice A' m' c') w a' z')) (hx : a' ≤ a ∧ z ≤ z') (ha : 0 ≤ a ∧ a ≤ z ∧ z ≤ 200000)
    (D1 : Hid (NdC (.slice A m c) w a z x y h r d)) (D2 : Hid (NdC (.slice A' m' c') w a z x' y' h' r' d')) (B1 : Hid (NdB a z x y h r d)) (B2 : Hid (NdB a z x' y' h' r' d')) :
    Calls Tryz.prog 11 #[.slice A m c, .slice A' m' c'] w fun e w' => InPost a z Cf e ∧ Below w.heap.size w w' := by
  go_enter Tryz.func11, Tryz.ntmps11
  have HQ := Lib.hid (q2_new w 23 (.slice A m c) (.slice A' m' c'))
  have HW := Lib.hid (b_alloc (Below.refl w.heap.size w) (.cells #[.slice A m c, .slice A' m' c'] 23))
  go_wp2_with fail
  go_loopw [22] (fun s wr => (s = .int .i64 0 ∨ s = .int .i64 1 ∨ s = .int .i64 2) ∧ Q2 wr w.heap.size (.slice A m c) (.slice A' m' c') ∧ Below w.heap.size w wr) (fun s _ => 2 - (intOf s).toNat)
  case atStart => exact ⟨Or.inl rfl, HQ.out, HW.out⟩
  case round =>
    obtain ⟨rfl | rfl | rfl, ⟨q0, q1⟩, hbl⟩ := hrel
    · go_wp2_with fail
      (with_reducible refine (C1.out _ hbl).mono ?_); rintro e w1 ⟨rfl, h⟩
      have HQ1 := Lib.hid (q2_keep h ⟨q0, q1⟩); have HW1 := Lib.hid (b_next hbl h); clear h hbl
      go_wp2_with fail
      go_roundw
      case rel => exact ⟨Or.inr (Or.inl rfl), HQ1.out, HW1.out⟩
      case measure => simp [intOf]
    · go_wp2_with fail
      (with_reducible refine (C2.out _ hbl).mono ?_); rintro e w1 ⟨rfl, h⟩
      have HQ1 := Lib.hid (q2_keep h ⟨q0, q1⟩); have HW1 := Lib.hid (b_next hbl h); clear h hbl
      go_wp2_with fail
      go_roundw
      case rel => exact ⟨Or.inr (Or.inr rfl), HQ1.out, HW1.out⟩
      case measure => simp [intOf]
    · have HW1 := Lib.hid hbl; clear hbl q0 q1
      go_wp2_with fail
      (with_reducible refine (N1.out _ HW1.out).mono ?_); rintro e w1 ⟨rfl, h⟩
      have HW2 := Lib.hid (b_next HW1.out h); clear h
      go_wp2_with fail
      (with_reducible refine (N2.out _ HW2.out).mono ?_); rintro e w2 ⟨rfl, h⟩
      have HW3 := Lib.hid (b_next HW2.out h); clear h
      have g1 : ¬ a < a' := by omega
      have g2 : ¬ z' < z := by omega
      go_wp2_with fail
      obtain ⟨wb, rfl⟩ : ∃ wb : World, wb = w2 := ⟨_, rfl⟩
      go_loopw [13] (fun s wr => ∃ t : Int, a ≤ t ∧ t ≤ z + 1 ∧ s = .int .i64 t ∧ Below w.heap.size w wr ∧ ∀ t', a ≤ t' → t' < t → Cf t' = true) (fun s _ => (z + 1 - intOf s).toNat)
      case atStart => exact ⟨a, Int.le_refl _, by omega, rfl, HW3.out, fun t' h1 h2 => by omega⟩
      case round =>
        obtain ⟨t, t1, t2, rfl, hbl, hin⟩ := hrel
        have HI := Lib.hid hin; have HB := Lib.hid hbl; clear hin hbl
        by_cases hlt : t ≤ z
        · have b1 := B1.out t t1 hlt; have b2 := B2.out t t1 hlt
          have DS := Lib.hid (fun w => distance (x t) (y t) (x' t) (y' t) w rfl (by omega))
          have dl := dup_le (sqr_nonneg (x t) (y t) (x' t) (y' t)) (sqr_near (by unfold good; omega) (by unfold good; omega))
          have dn := (dup_spec (sqr_nonneg (x t) (y t) (x' t) (y' t))).1
          have IN := Lib.hid (show Cf t = (decide (dup (sqr (x t) (y t) (x' t) (y' t)) + r t ≤ r' t) && decide (max (h t - h' t) (h' t - h t) + d t ≤ d' t)) from HC.out t)
          generalize dup (sqr (x t) (y t) (x' t) (y' t)) = q at *
          generalize root (sqr (x t) (y t) (x' t) (y' t)) = q' at *
          have D1' := Lib.hid (fun w1 hb => D1.out w1 hb t t1 hlt); have D2' := Lib.hid (fun w1 hb => D2.out w1 hb t t1 hlt)
          generalize x t = xt at *
          generalize y t = yt at *
          generalize h t = ht at *
          generalize r t = rt at *
          generalize d t = dt at *
          generalize x' t = xt' at *
          generalize y' t = yt' at *
          generalize h' t = ht' at *
          generalize r' t = rt' at *
          generalize d' t = dt' at *
          go_wp2_with fail
          (with_reducible refine (D1'.out _ HB.out).mono ?_); rintro e w3 ⟨rfl, hb⟩
          have HB1 := Lib.hid (b_next HB.out hb); clear hb
          go_wp2_with fail
          (with_reducible refine (D2'.out _ HB1.out).mono ?_); rintro e w4 ⟨rfl, hb⟩
          have HB2 := Lib.hid (b_next HB1.out hb); clear hb
          go_wp2_with fail
          have dA := d6_keep (b_alloc (Below.refl _ _) (.cells #[.int .i64 t, .int .i64 xt', .int .i64 yt', .int .i64 ht', .int .i64 rt', .int .i64 dt'] 74)) (d6_new w4 74 t xt yt ht rt dt)
          have dB := d6_new (w4.alloc (.cells #[.int .i64 t, .int .i64 xt, .int .i64 yt, .int .i64 ht, .int .i64 rt, .int .i64 dt] 74)) 74 t xt' yt' ht' rt' dt'
          rw [World.size_alloc] at dB
          have HB3 := Lib.hid (b_alloc (b_alloc HB2.out (.cells #[.int .i64 t, .int .i64 xt, .int .i64 yt, .int .i64 ht, .int .i64 rt, .int .i64 dt] 74)) (.cells #[.int .i64 t, .int .i64 xt', .int .i64 yt', .int .i64 ht', .int .i64 rt', .int .i64 dt'] 74))
          have DA := Lib.hid dA; have DB := Lib.hid dB; clear dA dB
          (with_reducible refine (DS.out _).mono ?_); rintro e w5 ⟨rfl, hb⟩
          have HB4 := Lib.hid (b_next HB3.out hb)
          obtain ⟨⟨a0, a1, a2⟩, a3, a4, a5⟩ := d6_keep hb DA.out
          obtain ⟨⟨b0', b1', b2'⟩, b3', b4', b5'⟩ := d6_keep hb DB.out
          clear hb
          go_wp2_with fail
          all_goals first
            | (go_ret2; exact ⟨in_no t1 hlt (by rw [IN.out, Bool.and_eq_false_iff, decide_eq_false_iff_not, decide_eq_false_iff_not]; omega), HB4.out⟩)
            | (refine ⟨⟨t + 1, by omega, by omega, rfl, HB4.out, fun t' h1 h2 => ?_⟩, by simp [intOf]; omega⟩
               by_cases h3 : t' < t
               · exact HI.out t' h1 h3
               · have : t' = t := by omega
                 subst this
                 rw [IN.out, Bool.and_eq_true, decide_eq_true_eq, decide_eq_true_eq]; omega)
        · go_wp2_with fail
          go_ret2
          exact ⟨in_yes fun t' h1 h2 => HI.out t' h1 (by omega), HB.out⟩
end Tube
end Go.Proofs.YteieagihdflapaaGreatDoor
namespace Go.Proofs.YteieagihdflapaaGreatDoor
open Go.RowKit
namespace Tube
open Kit Plane
/-- The value is a tube. -/
def IsT (w : World) (v : Value) : Prop := ∃ n T X Y H R B, TV w v n T X Y H R B
theorem isT_keep {W w1 : World} (hb : Below W.heap.size W w1) {v : Value} (h : IsT W v) : IsT w1 v := by
  obtain ⟨n, T, X, Y, H, R, B, h⟩ := h
  exact ⟨n, T, X, Y, H, R, B, tv_keep hb h⟩
def AnyB (e : Ending) : Prop := ∃ r : Bool, e = .returned (.bool r)
end Tube
end Go.Proofs.YteieagihdflapaaGreatDoor
namespace Go.Proofs.YteieagihdflapaaGreatDoor
open Go.RowKit
namespace Tube
open Kit Plane
/-- A tube that Check accepts yields its nodes at all times. -/
theorem nd_of {v : Value} {n : Nat} {T X Y H R B : Nat → Int} {w : World} (hv : TV w v n T X Y H R B) (hp : tok T X Y H R B n) {a z : Int} (h0 : T 0 ≤ a) (hz : z ≤ T (n - 1)) :
    NdC v w a z (fun t => tx T X (segI T n t) t) (fun t => tx T Y (segI T n t) t) (fun t => th T H (segI T n t) t) (fun t => tu T R (segI T n t) t) (fun t => tu T B (segI T n t) t) :=
  fun _ hb t h1 h2 => atC (tv_keep hb hv) hp (segI_spec hp.pos (by omega)) (by omega)
theorem nd_bds {n : Nat} {T X Y H R B : Nat → Int} (hp : tok T X Y H R B n) {a z : Int} (h0 : T 0 ≤ a) (hz : z ≤ T (n - 1)) :
    NdB a z (fun t => tx T X (segI T n t) t) (fun t => tx T Y (segI T n t) t) (fun t => th T H (segI T n t) t) (fun t => tu T R (segI T n t) t) (fun t => tu T B (segI T n t) t) := fun t h1 h2 => by
  have := at_bds hp (segI_spec hp.pos (show T 0 ≤ t by omega)) (show t ≤ T (n - 1) by omega)
  unfold good at this
  exact this
/-- What tube.Inside says of two tubes that Check accepts. -/
def InsP (T X Y H R B : Nat → Int) (n : Nat) (T' X' Y' H' R' B' : Nat → Int) (n' : Nat) : Prop := T' 0 ≤ T 0 ∧ T (n - 1) ≤ T' (n' - 1) ∧ ∀ t, T 0 ≤ t → t ≤ T (n - 1) → inT T X Y H R B n T' X' Y' H' R' B' n' t = true
section
variable {u v : Value} {n n' : Nat} {T X Y H R B T' X' Y' H' R' B' : Nat → Int} {w : World}
theorem insideC_bad (hu : TV w u n T X Y H R B) (hv : TV w v n' T' X' Y' H' R' B') {E : Int} (hE : E ≠ 0) (h : tck T X Y H R B n = E ∨ (tck T X Y H R B n = 0 ∧ tck T' X' Y' H' R' B' n' = E)) :
    Calls Tryz.prog 11 #[u, v] w fun e w' => e = .returned (.tuple #[.bool false, .int .i64 E]) ∧ Below w.heap.size w w' := by
  have C1 := checkC hu
  have C2 := checkC hv
  obtain ⟨A, c, rfl, -, -⟩ := tv_slice hu
  obtain ⟨A', c', rfl, -, -⟩ := tv_slice hv
  rcases h with h | ⟨h, h'⟩
  · rw [h] at C1; exact inside_bad1 A A' n n' c c' E w (Lib.hid C1) hE
  · rw [h] at C1; rw [h'] at C2; exact inside_bad2 A A' n n' c c' E w (Lib.hid C1) (Lib.hid C2) hE
theorem insideC_ok (hu : TV w u n T X Y H R B) (hv : TV w v n' T' X' Y' H' R' B') (hp : tok T X Y H R B n) (hp' : tok T' X' Y' H' R' B' n') :
    Calls Tryz.prog 11 #[u, v] w fun e w' => (∃ c : Bool, e = .returned (.tuple #[.bool c, .int .i64 0]) ∧ (c = true ↔ InsP T X Y H R B n T' X' Y' H' R' B' n')) ∧ Below w.heap.size w w' := by
  have C1 := checkC hu
  have C2 := checkC hv
  rw [(tck_zero n).2 hp] at C1
  rw [(tck_zero n').2 hp'] at C2
  have N1 := endsC hu hp
  have N2 := endsC hv hp'
  by_cases hx : T 0 < T' 0 ∨ T' (n' - 1) < T (n - 1)
  · obtain ⟨A, c, rfl, -, -⟩ := tv_slice hu
    obtain ⟨A', c', rfl, -, -⟩ := tv_slice hv
    refine (inside_out A A' n n' c c' _ _ _ _ w (Lib.hid C1) (Lib.hid C2) (Lib.hid N1) (Lib.hid N2) hx).mono fun e w' ⟨he, hb⟩ => ⟨⟨false, he, fun h => (by cases h), fun h => ?_⟩, hb⟩
    have := h.1; have := h.2.1; omega
  · have D1 := nd_of hu hp (Int.le_refl (T 0)) (Int.le_refl (T (n - 1)))
    have D2 := nd_of hv hp' (show T' 0 ≤ T 0 by omega) (show T (n - 1) ≤ T' (n' - 1) by omega)
    have B1 := nd_bds hp (Int.le_refl (T 0)) (Int.le_refl (T (n - 1)))
    have B2 := nd_bds hp' (show T' 0 ≤ T 0 by omega) (show T (n - 1) ≤ T' (n' - 1) by omega)
    obtain ⟨A, c, rfl, -, -⟩ := tv_slice hu
    obtain ⟨A', c', rfl, -, -⟩ := tv_slice hv
    have t0 := hp.time 0 hp.pos
    have tn := hp.time (n - 1) (by have := hp.pos; omega)
    have tl := tok_le hp (show 0 ≤ n - 1 by omega) (show n - 1 < n by have := hp.pos; omega)
    refine (inside_walk A A' n n' c c' _ _ _ _ _ _ _ _ _ _ _ _ _ _ (inT T X Y H R B n T' X' Y' H' R' B' n') (Lib.hid fun t => rfl) w (Lib.hid C1) (Lib.hid C2) (Lib.hid N1) (Lib.hid N2) (by omega) (by omega) (Lib.hid D1) (Lib.hid D2) (Lib.hid B1) (Lib.hid B2)).mono fun e w' ⟨⟨r, he, hr⟩, hb⟩ => ⟨⟨r, he, hr.trans ⟨fun h => ⟨by omega, by omega, h⟩, fun h => h.2.2⟩⟩, hb⟩
end
theorem tatE_ok {T X Y H R B : Nat → Int} {n : Nat} {u : Int} (hp : tok T X Y H R B n) (h0 : T 0 ≤ u) (h1 : u ≤ T (n - 1)) : tatE T X Y H R B n u = 0 := by
  unfold tatE; rw [(tck_zero n).2 hp, if_neg (by omega), if_neg (by omega)]
theorem hasE_ok {T X Y H R B : Nat → Int} {n : Nat} {u qx qy hh : Int} (hp : tok T X Y H R B n) (h0 : T 0 ≤ u) (h1 : u ≤ T (n - 1)) (hq : chk qx qy = 0) (hh0 : 0 ≤ hh ∧ hh ≤ 60000) : hasE T X Y H R B n u qx qy hh = 0 := by
  unfold hasE; rw [tatE_ok hp h0 h1, if_neg (by omega), if_neg (by omega)]
/-- What lies in a node lies in one that this node lies in. -/
theorem in_has {x y h r d x' y' h' r' d' qx qy hh : Int} (hr : 0 ≤ r) (hr' : r' ≤ 1000000) (h1 : inN x y h r d x' y' h' r' d' = true) (h2 : (inB (sqr x y qx qy) r && decide (max (h - hh) (hh - h) ≤ d)) = true) : (inB (sqr x' y' qx qy) r' && decide (max (h' - hh) (hh - h') ≤ d')) = true := by
  unfold inN at h1
  unfold inB at h2 ⊢
  simp only [Bool.and_eq_true, decide_eq_true_eq] at h1 h2 ⊢
  have hs := sqr_nonneg x y x' y'
  have ds := dup_spec hs
  refine ⟨⟨by omega, by omega, ?_⟩, by omega⟩
  have t := tri_sq (px := x' - x) (py := y' - y) (qx := x - qx) (qy := y - qy) ds.1 hr (by
    have := ds.2.1; unfold sqr at this
    rw [show x' - x = -(x - x') from by omega, show y' - y = -(y - y') from by omega, Int.neg_mul_neg, Int.neg_mul_neg]; unfold sqr at *; exact this) (by have := h2.1.2.2; unfold sqr at this; exact this)
  rw [show x' - x + (x - qx) = x' - qx from by omega, show y' - y + (y - qy) = y' - qy from by omega] at t
  have m := sq_mono (x := dup (sqr x y x' y') + r) (y := r') (by omega) h1.1
  show (x' - qx) * (x' - qx) + (y' - qy) * (y' - qy) ≤ r' * r'
  omega
end Tube
end Go.Proofs.YteieagihdflapaaGreatDoor
namespace Go.Proofs.YteieagihdflapaaGreatDoor
open Go.RowKit
namespace Probe
open Kit Plane Tube
/-- What probe.CheckSep returns. -/
def sepE (lat ver : Int) : Int := if lat < 0 ∨ 1000000 < lat ∨ ver < 0 ∨ 60000 < ver then 4 else 0
set_option maxHeartbeats 1000000 in
theorem checkSep (lat ver : Int) (w : World) : Calls Tryz.prog 61 #[.agg #[.int .i64 lat, .int .i64 ver]] w fun e w' => e = .returned (.int .i64 (sepE lat ver)) ∧ Below w.heap.size w w' := by
  have HW := Lib.hid (b_alloc (Below.refl w.heap.size w) (.cells #[.int .i64 lat, .int .i64 ver] 25))
  unfold sepE
  by_cases hx : lat < 0 ∨ 1000000 < lat ∨ ver < 0 ∨ 60000 < ver
  · rw [if_pos hx]
    go_enter Tryz.func61, Tryz.ntmps61
    go_wp2_with fail
    all_goals first | (exfalso; omega) | (go_ret; exact ⟨rfl, HW.out⟩)
  · rw [if_neg hx]
    go_enter Tryz.func61, Tryz.ntmps61
    go_wp2_with fail
    all_goals first | (exfalso; omega) | (go_ret; exact ⟨rfl, HW.out⟩)
/-- The first error of k tubes. -/
def firstE (es : Nat → Int) : Nat → Int
  | 0 => 0
  | k + 1 => if firstE es k ≠ 0 then firstE es k else es k
theorem first_step {es : Nat → Int} {k : Nat} (h : firstE es k = 0) : firstE es (k + 1) = es k := by
  show (if firstE es k ≠ 0 then _ else _) = _
  rw [if_neg (fun e => e h)]
theorem first_stays {es : Nat → Int} {k : Nat} (h : firstE es k ≠ 0) : ∀ m, k ≤ m → firstE es m = firstE es k := by
  intro m
  induction m with
  | zero => intro hk; rw [show k = 0 from by omega]
  | succ m ih =>
    intro hk
    rcases Nat.lt_or_ge m k with hl | hl
    · rw [show m + 1 = k from by omega]
    · have e := ih hl
      show (if firstE es m ≠ 0 then _ else _) = _
      rw [if_pos (by rw [e]; exact h), e]
theorem first_stop {es : Nat → Int} {k m : Nat} (h0 : firstE es k = 0) (hk : k < m) (hE : es k ≠ 0) : firstE es m = es k := by
  have h1 := first_step h0
  rw [first_stays (by rw [h1]; exact hE) m (by omega), h1]
set_option maxHeartbeats 1000000 in
theorem check_sep (v : Value) (lat ver : Int) (w : World) (h : sepE lat ver ≠ 0) : Calls Tryz.prog 36 #[.agg #[.int .i64 lat, .int .i64 ver], v] w fun e w' => e = .returned (.int .i64 (sepE lat ver)) ∧ Below w.heap.size w w' := by
  have HP := Lib.hid (p2_new w 25 lat ver)
  have HW := Lib.hid (b_alloc (Below.refl w.heap.size w) (.cells #[.int .i64 lat, .int .i64 ver] 25))
  have C := Lib.hid (checkSep lat ver)
  generalize sepE lat ver = E at *
  obtain ⟨hE1, hE2⟩ := ge1 h; clear h
  go_enter Tryz.func36, Tryz.ntmps36
  go_wp2_with fail
  (with_reducible refine (C.out _).mono ?_); rintro e w1 ⟨rfl, h⟩
  have hw := b_next HW.out h; clear h
  go_wp2_with fail
  go_ret
  exact ⟨rfl, hw⟩
set_option maxRecDepth 100000 in
set_option maxHeartbeats 2000000 in
theorem check_tubes (b m c : Nat) (A : Nat → Option Addr) (N K : Nat → Nat) (es : Nat → Int) (lat ver : Int) (w : World) (hs : sepE lat ver = 0) (hc : m ≤ c) (hm : c ≤ 9223372036854775807) (HV : Hid (∀ k, k < m → w.cell? ⟨b, k, none⟩ = some (.slice (A k) (N k) (K k)))) (C : Hid (∀ k, k < m → CkC (.slice (A k) (N k) (K k)) (es k) w)) :
    Calls Tryz.prog 36 #[.agg #[.int .i64 lat, .int .i64 ver], .slice (some ⟨b, 0, none⟩) m c] w fun e w' => e = .returned (.int .i64 (firstE es m)) ∧ Below w.heap.size w w' := by
  have HP := Lib.hid (p2_new w 25 lat ver)
  have HW := Lib.hid (b_alloc (Below.refl w.heap.size w) (.cells #[.int .i64 lat, .int .i64 ver] 25))
  have CS := Lib.hid (fun w => by have c := checkSep lat ver w; rw [hs] at c; exact c)
  clear hs
  go_enter Tryz.func36, Tryz.ntmps36
  go_wp2_with fail
  (with_reducible refine (CS.out _).mono ?_); rintro e w1 ⟨rfl, h⟩
  have W1 := Lib.hid (b_next HW.out h); clear h
  go_wp2_with fail
  go_loopw [16] (fun s wr => ∃ k : Nat, k ≤ m ∧ s = .int .i64 k ∧ firstE es k = 0 ∧ Below w.heap.size w wr) (fun s _ => m - (intOf s).toNat)
  case atStart => exact ⟨0, Nat.zero_le _, rfl, rfl, W1.out⟩
  case round =>
    obtain ⟨k, hk, rfl, hf, hbl⟩ := hrel
    have HF := Lib.hid hf; have HB := Lib.hid hbl; clear hf
    by_cases hlt : k < m
    · have hl : (k : Int) < (m : Int) := by omega
      have hcell := keep hbl (HV.out k hlt)
      have CK := Lib.hid (C.out k hlt)
      clear hbl
      by_cases hE : es k = 0
      · rw [hE] at CK
        have HE := Lib.hid hE; clear hE
        go_wp2_with fail
        (with_reducible refine (CK.out _ HB.out).mono ?_); rintro e w2 ⟨rfl, h⟩
        have HB2 := Lib.hid (b_next HB.out h); clear h
        go_wp2_with fail
        exact ⟨⟨k + 1, by omega, by go_num, by rw [first_step HF.out]; exact HE.out, HB2.out⟩, by simp [intOf]; omega⟩
      · have HFE := Lib.hid (first_stop HF.out hlt hE)
        obtain ⟨hE1, hE2⟩ := ge1 hE; clear hE
        go_wp2_with fail
        (with_reducible refine (CK.out _ HB.out).mono ?_); rintro e w2 ⟨rfl, h⟩
        have HB2 := Lib.hid (b_next HB.out h); clear h
        go_wp2_with fail
        go_ret
        exact ⟨ret1 HFE.out.symm, HB2.out⟩
    · have he : k = m := by omega
      have HE := Lib.hid he
      have hl : ¬ (k : Int) < (m : Int) := by omega
      clear he
      go_wp2_with fail
      go_ret
      exact ⟨ret1 (by rw [← HE.out]; exact HF.out.symm), hbl⟩
/-- What separated answers. -/
def sepB (x y h r d x' y' h' r' d' lat ver : Int) : Bool := decide (lat ≤ root (sqr x y x' y') - r - r') || decide (ver ≤ max (h - h') (h' - h) - d - d')
/-- The numbers of a node, in bounds. -/
abbrev NB (x y h r d : Int) : Prop := (-1000000 ≤ x ∧ x ≤ 1000000 ∧ -1000000 ≤ y ∧ y ≤ 1000000) ∧ (0 ≤ h ∧ h ≤ 60000) ∧ (0 ≤ r ∧ r ≤ 1000000) ∧ (0 ≤ d ∧ d ≤ 60000)
set_option maxRecDepth 100000 in
set_option maxHeartbeats 4000000 in
theorem separated (t x y h r d t' x' y' h' r' d' lat ver : Int) (w : World) (b1 : NB x y h r d) (b2 : NB x' y' h' r' d') : Calls Tryz.prog 89 #[.agg #[.int .i64 t, .int .i64 x, .int .i64 y, .int .i64 h, .int .i64 r, .int .i64 d], .agg #[.int .i64 t', .int .i64 x', .int .i64 y', .int .i64 h', .int .i64 r', .int .i64 d'], .agg #[.int .i64 lat, .int .i64 ver]] w fun e w' => e = .returned (.bool (sepB x y h r d x' y' h' r' d' lat ver)) ∧ Below w.heap.size w w' := by
  have DS := Lib.hid (fun w => distance x y x' y' w rfl (by omega))
  have SB := Lib.hid (show sepB x y h r d x' y' h' r' d' lat ver = (decide (lat ≤ root (sqr x y x' y') - r - r') || decide (ver ≤ max (h - h') (h' - h) - d - d')) from rfl)
  have dl := dup_le (sqr_nonneg x y x' y') (sqr_near (by unfold good; omega) (by unfold good; omega))
  have dn := (root_spec (sqr_nonneg x y x' y')).1
  generalize sepB x y h r d x' y' h' r' d' lat ver = res at *
  generalize dup (sqr x y x' y') = q' at *
  generalize root (sqr x y x' y') = q at *
  have zA := d6_keep (b_alloc (Below.refl _ _) (.cells #[.int .i64 lat, .int .i64 ver] 25)) (d6_keep (b_alloc (Below.refl _ _) (.cells #[.int .i64 t', .int .i64 x', .int .i64 y', .int .i64 h', .int .i64 r', .int .i64 d'] 74)) (d6_new w 74 t x y h r d))
  have zB := d6_keep (b_alloc (Below.refl _ _) (.cells #[.int .i64 lat, .int .i64 ver] 25)) (d6_new (w.alloc (.cells #[.int .i64 t, .int .i64 x, .int .i64 y, .int .i64 h, .int .i64 r, .int .i64 d] 74)) 74 t' x' y' h' r' d')
  have zS := p2_new2 w (.cells #[.int .i64 t, .int .i64 x, .int .i64 y, .int .i64 h, .int .i64 r, .int .i64 d] 74) (.cells #[.int .i64 t', .int .i64 x', .int .i64 y', .int .i64 h', .int .i64 r', .int .i64 d'] 74) 25 lat ver
  rw [World.size_alloc] at zB
  have ZA := Lib.hid zA; have ZB := Lib.hid zB; have ZS := Lib.hid zS; clear zA zB zS
  have HW := Lib.hid (b_alloc (b_alloc (b_alloc (Below.refl w.heap.size w) (.cells #[.int .i64 t, .int .i64 x, .int .i64 y, .int .i64 h, .int .i64 r, .int .i64 d] 74)) (.cells #[.int .i64 t', .int .i64 x', .int .i64 y', .int .i64 h', .int .i64 r', .int .i64 d'] 74)) (.cells #[.int .i64 lat, .int .i64 ver] 25))
  go_enter Tryz.func89, Tryz.ntmps89
  go_wp2_with fail
  (with_reducible refine (DS.out _).mono ?_); rintro e w1 ⟨rfl, hb⟩
  have W1 := Lib.hid (b_next HW.out hb)
  obtain ⟨⟨a0, a1, a2⟩, a3, a4, a5⟩ := d6_keep hb ZA.out
  obtain ⟨⟨c0, c1, c2⟩, c3, c4, c5⟩ := d6_keep hb ZB.out
  obtain ⟨s0, s1⟩ := p2_keep hb ZS.out
  clear hb
  by_cases e1 : lat ≤ q - r - r'
  · have f1 := decide_eq_true e1
    go_wp2_with fail
    go_ret
    exact ⟨retb (by rw [SB.out, f1]; rfl), W1.out⟩
  · have f1 := decide_eq_false e1
    go_wp2_with fail
    all_goals
      go_ret
      exact ⟨retb (by rw [SB.out, f1]; simp; omega), W1.out⟩
/-- Two tubes behind each other. -/
theorem q2_cells {w : World} {b : Nat} {A A' : Option Addr} {m m' c c' : Nat} (h : Q2 w b (.slice A m c) (.slice A' m' c')) : ∀ k, k < 2 → w.cell? ⟨b, k, none⟩ = some (.slice (if k = 0 then A else A') (if k = 0 then m else m') (if k = 0 then c else c')) := by
  intro k hk
  rcases (show k = 0 ∨ k = 1 from by omega) with rfl | rfl
  · exact h.1
  · exact h.2
theorem q2_checks {w : World} {A A' : Option Addr} {m m' c c' : Nat} {E E' : Int} (h : CkC (.slice A m c) E w) (h' : CkC (.slice A' m' c') E' w) : ∀ k, k < 2 → CkC (.slice (if k = 0 then A else A') (if k = 0 then m else m') (if k = 0 then c else c')) ((fun k => if k = 0 then E else E') k) w := by
  intro k hk
  rcases (show k = 0 ∨ k = 1 from by omega) with rfl | rfl
  · exact h
  · exact h'
theorem ckc_keep {W w : World} {v : Value} {E : Int} (hb : Below W.heap.size W w) (h : CkC v E W) : CkC v E w := fun w1 hb1 => h w1 (b_next hb hb1)
/-- What probe.check says of two tubes. -/
def twoE (lat ver E E' : Int) : Int := if sepE lat ver ≠ 0 then sepE lat ver else if E ≠ 0 then E else E'
theorem check_two {b : Nat} {A A' : Option Addr} {m m' c c' : Nat} {E E' : Int} (lat ver : Int) {w : World} (hq : Q2 w b (.slice A m c) (.slice A' m' c')) (h : CkC (.slice A m c) E w) (h' : CkC (.slice A' m' c') E' w) :
    Calls Tryz.prog 36 #[.agg #[.int .i64 lat, .int .i64 ver], .slice (some ⟨b, 0, none⟩) 2 2] w fun e w' => e = .returned (.int .i64 (twoE lat ver E E')) ∧ Below w.heap.size w w' := by
  unfold twoE
  by_cases hs : sepE lat ver = 0
  · rw [if_neg (fun e => e hs)]
    have c := check_tubes b 2 2 _ _ _ _ lat ver w hs (Nat.le_refl _) (by decide) (Lib.hid (q2_cells hq)) (Lib.hid (q2_checks h h'))
    have e : firstE (fun k => if k = 0 then E else E') 2 = if E ≠ 0 then E else E' := by
      simp [firstE]
    rw [e] at c
    exact c
  · rw [if_pos hs]
    exact check_sep _ lat ver w hs
end Probe
end Go.Proofs.YteieagihdflapaaGreatDoor
namespace Go.Proofs.YteieagihdflapaaGreatDoor
open Go.RowKit
namespace Probe
open Kit
/-- The intervals of the first k times from a on at which cf holds: how many, and their ends. -/
def spanN (cf : Int → Bool) (a : Int) : Nat → Nat × (Nat → Nat → Int)
  | 0 => (0, fun _ _ => 0)
  | k + 1 => if cf (a + k) = true then
      (if 0 < (spanN cf a k).1 ∧ (spanN cf a k).2 ((spanN cf a k).1 - 1) 1 = a + k then ((spanN cf a k).1, upd (spanN cf a k).2 ((spanN cf a k).1 - 1) 1 (a + k + 1))
       else ((spanN cf a k).1 + 1, fun i j => if i = (spanN cf a k).1 then (if j = 0 then a + k else a + k + 1) else (spanN cf a k).2 i j))
    else spanN cf a k
theorem spanN_no {cf : Int → Bool} {a : Int} {k : Nat} (h : cf (a + k) = false) : spanN cf a (k + 1) = spanN cf a k := by
  show (if cf (a + k) = true then _ else _) = _
  rw [if_neg (by rw [h]; decide)]
theorem spanN_more {cf : Int → Bool} {a : Int} {k : Nat} (h : cf (a + k) = true) (h0 : 0 < (spanN cf a k).1) (h1 : (spanN cf a k).2 ((spanN cf a k).1 - 1) 1 = a + k) : spanN cf a (k + 1) = ((spanN cf a k).1, upd (spanN cf a k).2 ((spanN cf a k).1 - 1) 1 (a + k + 1)) := by
  show (if cf (a + k) = true then _ else _) = _
  rw [if_pos h, if_pos ⟨h0, h1⟩]
theorem spanN_new {cf : Int → Bool} {a : Int} {k : Nat} (h : cf (a + k) = true) (h1 : ¬ (0 < (spanN cf a k).1 ∧ (spanN cf a k).2 ((spanN cf a k).1 - 1) 1 = a + k)) : spanN cf a (k + 1) = ((spanN cf a k).1 + 1, fun i j => if i = (spanN cf a k).1 then (if j = 0 then a + k else a + k + 1) else (spanN cf a k).2 i j) := by
  show (if cf (a + k) = true then _ else _) = _
  rw [if_pos h, if_neg h1]
/-- What is known of m intervals of the first k times. -/
structure SpanOk (cf : Int → Bool) (a : Int) (k m : Nat) (f : Nat → Nat → Int) : Prop where
  few : m ≤ k
  le : ∀ i, i < m → a ≤ f i 0 ∧ f i 0 < f i 1 ∧ f i 1 ≤ a + k
  gap : ∀ i, i + 1 < m → f i 1 < f (i + 1) 0
  hit : ∀ i, i < m → ∀ t, f i 0 ≤ t → t < f i 1 → cf t = true
  all : ∀ t, a ≤ t → t < a + k → cf t = true → ∃ i, i < m ∧ f i 0 ≤ t ∧ t < f i 1
theorem spanN_ok (cf : Int → Bool) (a : Int) : ∀ k, SpanOk cf a k (spanN cf a k).1 (spanN cf a k).2 := by
  intro k
  induction k with
  | zero => exact ⟨Nat.le_refl _, fun i h => absurd h (Nat.not_lt_zero i), fun i h => absurd h (Nat.not_lt_zero _), fun i h => absurd h (Nat.not_lt_zero i), fun t h1 h2 => by omega⟩
  | succ k ih =>
    have ek : a + ((k + 1 : Nat) : Int) = a + k + 1 := by omega
    by_cases hc : cf (a + k) = true
    · by_cases h1 : 0 < (spanN cf a k).1 ∧ (spanN cf a k).2 ((spanN cf a k).1 - 1) 1 = a + k
      · rw [spanN_more hc h1.1 h1.2]
        dsimp only
        generalize hm : (spanN cf a k).1 = m at *
        generalize hf : (spanN cf a k).2 = f at *
        have u0 : ∀ i, upd f (m - 1) 1 (a + k + 1) i 0 = f i 0 := fun i => if_neg (by omega)
        have u1 : ∀ i, i ≠ m - 1 → upd f (m - 1) 1 (a + k + 1) i 1 = f i 1 := fun i h => if_neg (by omega)
        have u2 : upd f (m - 1) 1 (a + k + 1) (m - 1) 1 = a + k + 1 := if_pos ⟨rfl, rfl⟩
        refine ⟨Nat.le_succ_of_le ih.few, fun i hi => ?_, fun i hi => ?_, fun i hi t h2 h3 => ?_, fun t h2 h3 h4 => ?_⟩
        · have := ih.le i hi
          rw [u0, ek]
          by_cases e : i = m - 1
          · subst e; rw [u2]; omega
          · rw [u1 i e]; omega
        · rw [u1 i (by omega), u0]; exact ih.gap i hi
        · rw [u0] at h2
          by_cases e : i = m - 1
          · subst e
            rw [u2] at h3
            by_cases ht : t = a + k
            · rw [ht]; exact hc
            · exact ih.hit _ hi t h2 (by rw [h1.2]; omega)
          · rw [u1 i e] at h3; exact ih.hit i hi t h2 h3
        · by_cases ht : t = a + k
          · refine ⟨m - 1, by omega, ?_, ?_⟩
            · rw [u0]; have := ih.le (m - 1) (by omega); omega
            · rw [u2]; omega
          · obtain ⟨i, hi, h5, h6⟩ := ih.all t h2 (by omega) h4
            refine ⟨i, hi, by rw [u0]; exact h5, ?_⟩
            by_cases e : i = m - 1
            · subst e; rw [u2]; omega
            · rw [u1 i e]; exact h6
      · rw [spanN_new hc h1]
        dsimp only
        generalize hm : (spanN cf a k).1 = m at *
        generalize hf : (spanN cf a k).2 = f at *
        refine ⟨by have := ih.few; omega, fun i hi => ?_, fun i hi => ?_, fun i hi t h2 h3 => ?_, fun t h2 h3 h4 => ?_⟩
        · rw [ek]
          by_cases e : i = m
          · rw [if_pos e, if_pos e, if_pos rfl, if_neg (by decide)]; omega
          · rw [if_neg e, if_neg e]; have := ih.le i (by omega); omega
        · rw [if_neg (by omega)]
          by_cases e : i + 1 = m
          · rw [if_pos e, if_pos rfl]
            have := ih.le i (by omega)
            have h2 : ¬ f (m - 1) 1 = a + k := fun h => h1 ⟨by omega, h⟩
            rw [show m - 1 = i from by omega] at h2
            omega
          · rw [if_neg e]; exact ih.gap i (by omega)
        · by_cases e : i = m
          · rw [if_pos e, if_pos rfl] at h2
            rw [if_pos e, if_neg (by decide)] at h3
            rw [show t = a + k from by omega]; exact hc
          · rw [if_neg e] at h2 h3; exact ih.hit i (by omega) t h2 h3
        · by_cases ht : t = a + k
          · refine ⟨m, by omega, ?_, ?_⟩
            · rw [if_pos rfl, if_pos rfl]; omega
            · rw [if_pos rfl, if_neg (by decide)]; omega
          · obtain ⟨i, hi, h5, h6⟩ := ih.all t h2 (by omega) h4
            exact ⟨i, by omega, by rw [if_neg (by omega)]; exact h5, by rw [if_neg (by omega)]; exact h6⟩
    · have hc' : cf (a + k) = false := by simpa using hc
      rw [spanN_no hc']
      refine ⟨Nat.le_succ_of_le ih.few, fun i hi => ?_, ih.gap, ih.hit, fun t h2 h3 h4 => ?_⟩
      · have := ih.le i hi; omega
      · by_cases ht : t = a + k
        · rw [ht, hc'] at h4; cases h4
        · exact ih.all t h2 (by omega) h4
/-- Nothing holds: no interval. -/
theorem span_none {cf : Int → Bool} {a : Int} {k : Nat} (h : ∀ t, a ≤ t → t < a + k → cf t = false) : (spanN cf a k).1 = 0 := by
  induction k with
  | zero => rfl
  | succ k ih =>
    rw [spanN_no (h _ (by omega) (by omega))]
    exact ih fun t h1 h2 => h t h1 (by omega)
/-- Something holds: an interval. -/
theorem span_some {cf : Int → Bool} {a : Int} {k : Nat} {t : Int} (h1 : a ≤ t) (h2 : t < a + k) (h : cf t = true) : 0 < (spanN cf a k).1 := by
  obtain ⟨i, hi, -⟩ := (spanN_ok cf a k).all t h1 h2 h
  omega
/-- All holds: one interval. -/
theorem span_full {cf : Int → Bool} {a : Int} {k : Nat} (h0 : 0 < k) (h : ∀ t, a ≤ t → t < a + k → cf t = true) : (spanN cf a k).1 = 1 ∧ (spanN cf a k).2 0 0 = a ∧ (spanN cf a k).2 0 1 = a + k := by
  have ok := spanN_ok cf a k
  have hpos := span_some (Int.le_refl a) (show a < a + (k : Int) by omega) (h a (Int.le_refl a) (by omega))
  obtain ⟨i, hi, h1, h2⟩ := ok.all a (Int.le_refl a) (by omega) (h a (Int.le_refl a) (by omega))
  have one : (spanN cf a k).1 = 1 := by
    rcases Nat.lt_or_ge 1 (spanN cf a k).1 with hl | hl
    · have g : (spanN cf a k).2 0 1 < (spanN cf a k).2 1 0 := ok.gap 0 (by omega)
      have l0 := ok.le 0 (by omega)
      have l1 := ok.le 1 hl
      obtain ⟨j, hj, j1, j2⟩ := ok.all ((spanN cf a k).2 0 1) (by omega) (by omega) (h _ (by omega) (by omega))
      rcases Nat.eq_zero_or_pos j with hj0 | hj0
      · subst hj0; omega
      · have mono : ∀ j, 1 ≤ j → j < (spanN cf a k).1 → (spanN cf a k).2 1 0 ≤ (spanN cf a k).2 j 0 := by
          intro j
          induction j with
          | zero => intro h; omega
          | succ j ih =>
            intro _ hjm
            rcases Nat.eq_zero_or_pos j with e | e
            · subst e; exact Int.le_refl _
            · have := ih e (by omega); have := ok.gap j hjm; have := ok.le j (by omega); omega
        have := mono j hj0 hj
        omega
    · omega
  have e0 : i = 0 := by omega
  subst e0
  have l0 := ok.le 0 (by omega)
  refine ⟨one, by omega, ?_⟩
  obtain ⟨j, hj, j1, j2⟩ := ok.all (a + k - 1) (by omega) (by omega) (h _ (by omega) (by omega))
  have : j = 0 := by omega
  subst this
  omega
/-- What holds less often has its intervals in those of what holds more often. -/
theorem span_wider {cf cf' : Int → Bool} {a : Int} {k : Nat} (h : ∀ t, a ≤ t → t < a + k → cf t = true → cf' t = true) {i : Nat} (hi : i < (spanN cf a k).1) : ∃ j, j < (spanN cf' a k).1 ∧ (spanN cf' a k).2 j 0 ≤ (spanN cf a k).2 i 0 ∧ (spanN cf a k).2 i 1 ≤ (spanN cf' a k).2 j 1 := by
  have ok := spanN_ok cf a k
  have ok' := spanN_ok cf' a k
  have l := ok.le i hi
  have hit : ∀ t, (spanN cf a k).2 i 0 ≤ t → t < (spanN cf a k).2 i 1 → cf' t = true := fun t h1 h2 => h t (by omega) (by omega) (ok.hit i hi t h1 h2)
  obtain ⟨j, hj, j1, j2⟩ := ok'.all ((spanN cf a k).2 i 0) (by omega) (by omega) (hit _ (Int.le_refl _) (by omega))
  refine ⟨j, hj, j1, ?_⟩
  have lj := ok'.le j hj
  rcases Int.lt_or_le ((spanN cf' a k).2 j 1) ((spanN cf a k).2 i 1) with hl | hl
  · exfalso
    obtain ⟨q, hq, q1, q2⟩ := ok'.all ((spanN cf' a k).2 j 1) (by omega) (by omega) (hit _ (by omega) hl)
    have step : ∀ p r, p < r → r < (spanN cf' a k).1 → (spanN cf' a k).2 p 1 < (spanN cf' a k).2 r 0 := by
      intro p r
      induction r with
      | zero => intro h; omega
      | succ r ih =>
        intro hpr hrm
        have g := ok'.gap r hrm
        rcases Nat.lt_or_ge p r with h' | h'
        · have := ih h' (by omega); have := ok'.le r (by omega); omega
        · rw [show p = r from by omega]; exact g
    rcases Nat.lt_trichotomy j q with h' | h' | h'
    · have := step j q h' hq; omega
    · subst h'; omega
    · have := step q j h' hj; omega
  · exact hl
end Probe
end Go.Proofs.YteieagihdflapaaGreatDoor
