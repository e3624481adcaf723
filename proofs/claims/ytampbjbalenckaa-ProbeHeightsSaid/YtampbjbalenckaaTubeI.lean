/- tube.Inside: what it returns; long: that it returns. -/
import Derived.Test.YtampbjbalenckaaTubeQ
namespace Go.Proofs.Ytampbjbalenckaa
open Go.RowKit
namespace Tube
open Kit Plane
/-- The last node that is not later than t. -/
def segI (T : Nat → Int) : Nat → Int → Nat
  | 0, _ => 0
  | n + 1, t => if T n ≤ t then n else segI T n t
theorem segI_spec {T : Nat → Int} {t : Int} : ∀ {n : Nat}, 0 < n → T 0 ≤ t → tseg T n t (segI T n t) := by
  intro n
  induction n with
  | zero => intro h; exact absurd h (by omega)
  | succ n ih =>
    intro _ h0
    show tseg T (n + 1) t (if T n ≤ t then n else segI T n t)
    by_cases hl : T n ≤ t
    · rw [if_pos hl]; exact ⟨by omega, hl, fun h => by omega⟩
    · rw [if_neg hl]
      rcases Nat.eq_zero_or_pos n with hn | hn
      · subst hn; omega
      · obtain ⟨h1, h2, h3⟩ := ih hn h0
        refine ⟨by omega, h2, fun h => ?_⟩
        rcases Nat.lt_or_ge (segI T n t + 1) n with h4 | h4
        · exact h3 h4
        · rw [show segI T n t + 1 = n from by omega]; omega
/-- Two slices of slices, one behind the other. -/
abbrev Q2 (w : World) (b : Nat) (u v : Value) : Prop := w.cell? ⟨b, 0, none⟩ = some u ∧ w.cell? ⟨b, 1, none⟩ = some v
theorem q2_keep {W w1 : World} (hb : Below W.heap.size W w1) {b : Nat} {u v : Value} (h : Q2 W b u v) : Q2 w1 b u v := ⟨keep hb h.1, keep hb h.2⟩
theorem q2_new (w : World) (t : TypeId) (u v : Value) : Q2 (w.alloc (.cells #[u, v] t)) w.heap.size u v := ⟨by simp, by simp⟩
/-- One node lies in another one. -/
def inN (x y h r d x' y' h' r' d' : Int) : Bool := decide (dup (sqr x y x' y') + r ≤ r') && decide (max (h - h') (h' - h) + d ≤ d')
/-- At a time one tube lies in the other. -/
def inT (T X Y H R B : Nat → Int) (n : Nat) (T' X' Y' H' R' B' : Nat → Int) (n' : Nat) (t : Int) : Bool :=
  inN (tx T X (segI T n t) t) (tx T Y (segI T n t) t) (th T H (segI T n t) t) (tu T R (segI T n t) t) (tu T B (segI T n t) t)
    (tx T' X' (segI T' n' t) t) (tx T' Y' (segI T' n' t) t) (th T' H' (segI T' n' t) t) (tu T' R' (segI T' n' t) t) (tu T' B' (segI T' n' t) t)
/-- No answer, or one that is right at all times. -/
def InPost (z z' : Int) (C : Int → Bool) (e : Ending) : Prop := ∃ c : Bool, e = .returned (.tuple #[.bool c, .int .i64 0]) ∧ (c = true ↔ ∀ t, z ≤ t → t ≤ z' → C t = true)
theorem in_no {z z' : Int} {C : Int → Bool} {t : Int} (h1 : z ≤ t) (h2 : t ≤ z') (h : C t = false) : InPost z z' C (.returned (.tuple #[.bool false, .int .i64 0])) :=
  ⟨false, rfl, fun e => (by cases e), fun e => by rw [e t h1 h2] at h; cases h⟩
theorem in_yes {z z' : Int} {C : Int → Bool} (h : ∀ t, z ≤ t → t ≤ z' → C t = true) : InPost z z' C (.returned (.tuple #[.bool true, .int .i64 0])) := ⟨true, rfl, fun _ => h, fun _ => rfl⟩
/-- What a call of at yields at a time. -/
abbrev NdC (v : Value) (w : World) (a z : Int) (x y h r d : Int → Int) : Prop := ∀ w1, Below w.heap.size w w1 → ∀ t, a ≤ t → t ≤ z → Calls Try.prog 50 #[v, .int .i64 t] w1 fun e w' => e = .returned (.agg #[.int .i64 t, .int .i64 (x t), .int .i64 (y t), .int .i64 (h t), .int .i64 (r t), .int .i64 (d t)]) ∧ Below w1.heap.size w1 w'
/-- The numbers of a node that is interpolated. -/
abbrev NdB (a z : Int) (x y h r d : Int → Int) : Prop := ∀ t, a ≤ t → t ≤ z → (-1000000 ≤ x t ∧ x t ≤ 1000000 ∧ -1000000 ≤ y t ∧ y t ≤ 1000000) ∧ (0 ≤ h t ∧ h t ≤ 60000) ∧ (0 ≤ r t ∧ r t ≤ 1000000) ∧ (0 ≤ d t ∧ d t ≤ 60000)
theorem ge1 {E : Int} (h : E ≠ 0) : (E == 0) = false ∧ (E != 0) = true := by constructor <;> simp [h]
abbrev EnC (v : Value) (w : World) (a z : Int) : Prop := ∀ w1, Below w.heap.size w w1 → Calls Try.prog 49 #[v] w1 fun e w' => e = .returned (.tuple #[.int .i64 a, .int .i64 z]) ∧ Below w1.heap.size w1 w'
set_option maxRecDepth 100000 in
set_option maxHeartbeats 4000000 in
theorem inside_bad1 (A A' : Option Addr) (m m' c c' : Nat) (E : Int) (w : World) (C1 : Hid (CkC (.slice A m c) E w)) (hE : E ≠ 0) :
    Calls Try.prog 37 #[.slice A m c, .slice A' m' c'] w fun e w' => e = .returned (.tuple #[.bool false, .int .i64 E]) ∧ Below w.heap.size w w' := by
  obtain ⟨hE1, hE2⟩ := ge1 hE; clear hE
  go_enter Try.func37, Try.ntmps37
  have HQ := Lib.hid (q2_new w 45 (.slice A m c) (.slice A' m' c'))
  have HW := Lib.hid (b_alloc (Below.refl w.heap.size w) (.cells #[.slice A m c, .slice A' m' c'] 45))
  go_wp2_with fail
  go_loopw [22] (fun s wr => s = .int .i64 0 ∧ Q2 wr w.heap.size (.slice A m c) (.slice A' m' c') ∧ Below w.heap.size w wr) (fun _ _ => 0)
  case atStart => exact ⟨rfl, HQ.out, HW.out⟩
  case round =>
    obtain ⟨rfl, ⟨q0, q1⟩, hbl⟩ := hrel
    go_wp2_with fail
    (with_reducible refine (C1.out _ hbl).mono ?_); rintro e w1 ⟨rfl, h⟩
    have hw := b_next hbl h; clear h
    go_wp2_with fail
    go_ret2
    exact ⟨rfl, hw⟩
set_option maxRecDepth 100000 in
set_option maxHeartbeats 4000000 in
theorem inside_bad2 (A A' : Option Addr) (m m' c c' : Nat) (E : Int) (w : World) (C1 : Hid (CkC (.slice A m c) 0 w)) (C2 : Hid (CkC (.slice A' m' c') E w)) (hE : E ≠ 0) :
    Calls Try.prog 37 #[.slice A m c, .slice A' m' c'] w fun e w' => e = .returned (.tuple #[.bool false, .int .i64 E]) ∧ Below w.heap.size w w' := by
  obtain ⟨hE1, hE2⟩ := ge1 hE; clear hE
  go_enter Try.func37, Try.ntmps37
  have HQ := Lib.hid (q2_new w 45 (.slice A m c) (.slice A' m' c'))
  have HW := Lib.hid (b_alloc (Below.refl w.heap.size w) (.cells #[.slice A m c, .slice A' m' c'] 45))
  go_wp2_with fail
  go_loopw [22] (fun s wr => (s = .int .i64 0 ∨ s = .int .i64 1) ∧ Q2 wr w.heap.size (.slice A m c) (.slice A' m' c') ∧ Below w.heap.size w wr) (fun s _ => 1 - (intOf s).toNat)
  case atStart => exact ⟨Or.inl rfl, HQ.out, HW.out⟩
  case round =>
    obtain ⟨rfl | rfl, ⟨q0, q1⟩, hbl⟩ := hrel
    · go_wp2_with fail
      (with_reducible refine (C1.out _ hbl).mono ?_); rintro e w1 ⟨rfl, h⟩
      have HQ1 := Lib.hid (q2_keep h ⟨q0, q1⟩); have HW1 := Lib.hid (b_next hbl h); clear h hbl
      go_wp2_with fail
      go_roundw
      case rel => exact ⟨Or.inr rfl, HQ1.out, HW1.out⟩
      case measure => simp [intOf]
    · go_wp2_with fail
      (with_reducible refine (C2.out _ hbl).mono ?_); rintro e w1 ⟨rfl, h⟩
      have hw := b_next hbl h; clear h
      go_wp2_with fail
      go_ret2
      exact ⟨rfl, hw⟩
set_option maxRecDepth 100000 in
set_option maxHeartbeats 4000000 in
theorem inside_out (A A' : Option Addr) (m m' c c' : Nat) (a z a' z' : Int) (w : World) (C1 : Hid (CkC (.slice A m c) 0 w)) (C2 : Hid (CkC (.slice A' m' c') 0 w)) (N1 : Hid (EnC (.slice A m c) w a z)) (N2 : Hid (EnC (.slice A' m' c') w a' z')) (hx : a < a' ∨ z' < z) :
    Calls Try.prog 37 #[.slice A m c, .slice A' m' c'] w fun e w' => e = .returned (.tuple #[.bool false, .int .i64 0]) ∧ Below w.heap.size w w' := by
  go_enter Try.func37, Try.ntmps37
  have HQ := Lib.hid (q2_new w 45 (.slice A m c) (.slice A' m' c'))
  have HW := Lib.hid (b_alloc (Below.refl w.heap.size w) (.cells #[.slice A m c, .slice A' m' c'] 45))
  go_wp2_with fail
  go_loopw [22] (fun s wr => (s = .int .i64 0 ∨ s = .int .i64 1 ∨ s = .int .i64 2) ∧ Q2 wr w.heap.size (.slice A m c) (.slice A' m' c') ∧ Below w.heap.size w wr) (fun s _ => 2 - (intOf s).toNat)
  case atStart => exact ⟨Or.inl rfl, HQ.out, HW.out⟩
  case round =>
    obtain ⟨rfl | rfl | rfl, ⟨q0, q1⟩, hbl⟩ := hrel
    · go_wp2_with fail
      (with_reducible refine (C1.out _ hbl).mono ?_); rintro e w1 ⟨rfl, h⟩
      have HQ1 := Lib.hid (q2_keep h ⟨q0, q1⟩); have HW1 := Lib.hid (b_next hbl h); clear h hbl
      go_wp2_with fail
      go_roundw
      case rel => exact ⟨Or.inr (Or.inl rfl), HQ1.out, HW1.out⟩
      case measure => simp [intOf]
    · go_wp2_with fail
      (with_reducible refine (C2.out _ hbl).mono ?_); rintro e w1 ⟨rfl, h⟩
      have HQ1 := Lib.hid (q2_keep h ⟨q0, q1⟩); have HW1 := Lib.hid (b_next hbl h); clear h hbl
      go_wp2_with fail
      go_roundw
      case rel => exact ⟨Or.inr (Or.inr rfl), HQ1.out, HW1.out⟩
      case measure => simp [intOf]
    · have HW1 := Lib.hid hbl; clear hbl q0 q1
      go_wp2_with fail
      (with_reducible refine (N1.out _ HW1.out).mono ?_); rintro e w1 ⟨rfl, h⟩
      have HW2 := Lib.hid (b_next HW1.out h); clear h
      go_wp2_with fail
      (with_reducible refine (N2.out _ HW2.out).mono ?_); rintro e w2 ⟨rfl, h⟩
      have HW3 := Lib.hid (b_next HW2.out h); clear h
      go_wp2_with fail
      all_goals first | (exfalso; omega) | (go_ret2; exact ⟨rfl, HW3.out⟩)
set_option maxRecDepth 100000 in
set_option maxHeartbeats 8000000 in
theorem inside_walk (A A' : Option Addr) (m m' c c' : Nat) (a z a' z' : Int) (x y h r d x' y' h' r' d' : Int → Int) (Cf : Int → Bool) (HC : Hid (∀ t, Cf t = inN (x t) (y t) (h t) (r t) (d t) (x' t) (y' t) (h' t) (r' t) (d' t))) (w : World) (C1 : Hid (CkC (.slice A m c) 0 w)) (C2 : Hid (CkC (.slice A' m' c') 0 w)) (N1 : Hid (EnC (.slice A m c) w a z)) (N2 : Hid (EnC (.slice A' m' c') w a' z')) (hx : a' ≤ a ∧ z ≤ z') (ha : 0 ≤ a ∧ a ≤ z ∧ z ≤ 200000)
    (D1 : Hid (NdC (.slice A m c) w a z x y h r d)) (D2 : Hid (NdC (.slice A' m' c') w a z x' y' h' r' d')) (B1 : Hid (NdB a z x y h r d)) (B2 : Hid (NdB a z x' y' h' r' d')) :
    Calls Try.prog 37 #[.slice A m c, .slice A' m' c'] w fun e w' => InPost a z Cf e ∧ Below w.heap.size w w' := by
  go_enter Try.func37, Try.ntmps37
  have HQ := Lib.hid (q2_new w 45 (.slice A m c) (.slice A' m' c'))
  have HW := Lib.hid (b_alloc (Below.refl w.heap.size w) (.cells #[.slice A m c, .slice A' m' c'] 45))
  go_wp2_with fail
  go_loopw [22] (fun s wr => (s = .int .i64 0 ∨ s = .int .i64 1 ∨ s = .int .i64 2) ∧ Q2 wr w.heap.size (.slice A m c) (.slice A' m' c') ∧ Below w.heap.size w wr) (fun s _ => 2 - (intOf s).toNat)
  case atStart => exact ⟨Or.inl rfl, HQ.out, HW.out⟩
  case round =>
    obtain ⟨rfl | rfl | rfl, ⟨q0, q1⟩, hbl⟩ := hrel
    · go_wp2_with fail
      (with_reducible refine (C1.out _ hbl).mono ?_); rintro e w1 ⟨rfl, h⟩
      have HQ1 := Lib.hid (q2_keep h ⟨q0, q1⟩); have HW1 := Lib.hid (b_next hbl h); clear h hbl
      go_wp2_with fail
      go_roundw
      case rel => exact ⟨Or.inr (Or.inl rfl), HQ1.out, HW1.out⟩
      case measure => simp [intOf]
    · go_wp2_with fail
      (with_reducible refine (C2.out _ hbl).mono ?_); rintro e w1 ⟨rfl, h⟩
      have HQ1 := Lib.hid (q2_keep h ⟨q0, q1⟩); have HW1 := Lib.hid (b_next hbl h); clear h hbl
      go_wp2_with fail
      go_roundw
      case rel => exact ⟨Or.inr (Or.inr rfl), HQ1.out, HW1.out⟩
      case measure => simp [intOf]
    · have HW1 := Lib.hid hbl; clear hbl q0 q1
      go_wp2_with fail
      (with_reducible refine (N1.out _ HW1.out).mono ?_); rintro e w1 ⟨rfl, h⟩
      have HW2 := Lib.hid (b_next HW1.out h); clear h
      go_wp2_with fail
      (with_reducible refine (N2.out _ HW2.out).mono ?_); rintro e w2 ⟨rfl, h⟩
      have HW3 := Lib.hid (b_next HW2.out h); clear h
      have g1 : ¬ a < a' := by omega
      have g2 : ¬ z' < z := by omega
      go_wp2_with fail
      obtain ⟨wb, rfl⟩ : ∃ wb : World, wb = w2 := ⟨_, rfl⟩
      go_loopw [13] (fun s wr => ∃ t : Int, a ≤ t ∧ t ≤ z + 1 ∧ s = .int .i64 t ∧ Below w.heap.size w wr ∧ ∀ t', a ≤ t' → t' < t → Cf t' = true) (fun s _ => (z + 1 - intOf s).toNat)
      case atStart => exact ⟨a, Int.le_refl _, by omega, rfl, HW3.out, fun t' h1 h2 => by omega⟩
      case round =>
        obtain ⟨t, t1, t2, rfl, hbl, hin⟩ := hrel
        have HI := Lib.hid hin; have HB := Lib.hid hbl; clear hin hbl
        by_cases hlt : t ≤ z
        · have b1 := B1.out t t1 hlt; have b2 := B2.out t t1 hlt
          have DS := Lib.hid (fun w => distance (x t) (y t) (x' t) (y' t) w rfl (by omega))
          have dl := dup_le (sqr_nonneg (x t) (y t) (x' t) (y' t)) (sqr_near (by unfold good; omega) (by unfold good; omega))
          have dn := (dup_spec (sqr_nonneg (x t) (y t) (x' t) (y' t))).1
          have IN := Lib.hid (show Cf t = (decide (dup (sqr (x t) (y t) (x' t) (y' t)) + r t ≤ r' t) && decide (max (h t - h' t) (h' t - h t) + d t ≤ d' t)) from HC.out t)
          generalize dup (sqr (x t) (y t) (x' t) (y' t)) = q at *
          generalize root (sqr (x t) (y t) (x' t) (y' t)) = q' at *
          have D1' := Lib.hid (fun w1 hb => D1.out w1 hb t t1 hlt); have D2' := Lib.hid (fun w1 hb => D2.out w1 hb t t1 hlt)
          generalize x t = xt at *
          generalize y t = yt at *
          generalize h t = ht at *
          generalize r t = rt at *
          generalize d t = dt at *
          generalize x' t = xt' at *
          generalize y' t = yt' at *
          generalize h' t = ht' at *
          generalize r' t = rt' at *
          generalize d' t = dt' at *
          go_wp2_with fail
          (with_reducible refine (D1'.out _ HB.out).mono ?_); rintro e w3 ⟨rfl, hb⟩
          have HB1 := Lib.hid (b_next HB.out hb); clear hb
          go_wp2_with fail
          (with_reducible refine (D2'.out _ HB1.out).mono ?_); rintro e w4 ⟨rfl, hb⟩
          have HB2 := Lib.hid (b_next HB1.out hb); clear hb
          go_wp2_with fail
          have dA := d6_keep (b_alloc (Below.refl _ _) (.cells #[.int .i64 t, .int .i64 xt', .int .i64 yt', .int .i64 ht', .int .i64 rt', .int .i64 dt'] 47)) (d6_new w4 47 t xt yt ht rt dt)
          have dB := d6_new (w4.alloc (.cells #[.int .i64 t, .int .i64 xt, .int .i64 yt, .int .i64 ht, .int .i64 rt, .int .i64 dt] 47)) 47 t xt' yt' ht' rt' dt'
          rw [World.size_alloc] at dB
          have HB3 := Lib.hid (b_alloc (b_alloc HB2.out (.cells #[.int .i64 t, .int .i64 xt, .int .i64 yt, .int .i64 ht, .int .i64 rt, .int .i64 dt] 47)) (.cells #[.int .i64 t, .int .i64 xt', .int .i64 yt', .int .i64 ht', .int .i64 rt', .int .i64 dt'] 47))
          have DA := Lib.hid dA; have DB := Lib.hid dB; clear dA dB
          (with_reducible refine (DS.out _).mono ?_); rintro e w5 ⟨rfl, hb⟩
          have HB4 := Lib.hid (b_next HB3.out hb)
          obtain ⟨⟨a0, a1, a2⟩, a3, a4, a5⟩ := d6_keep hb DA.out
          obtain ⟨⟨b0', b1', b2'⟩, b3', b4', b5'⟩ := d6_keep hb DB.out
          clear hb
          go_wp2_with fail
          all_goals first
            | (go_ret2; exact ⟨in_no t1 hlt (by rw [IN.out, Bool.and_eq_false_iff, decide_eq_false_iff_not, decide_eq_false_iff_not]; omega), HB4.out⟩)
            | (refine ⟨⟨t + 1, by omega, by omega, rfl, HB4.out, fun t' h1 h2 => ?_⟩, by simp [intOf]; omega⟩
               by_cases h3 : t' < t
               · exact HI.out t' h1 h3
               · have : t' = t := by omega
                 subst this
                 rw [IN.out, Bool.and_eq_true, decide_eq_true_eq, decide_eq_true_eq]; omega)
        · go_wp2_with fail
          go_ret2
          exact ⟨in_yes fun t' h1 h2 => HI.out t' h1 (by omega), HB.out⟩
end Tube
end Go.Proofs.Ytampbjbalenckaa
