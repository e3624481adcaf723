/- volume.During: what it returns. -/
import Derived.Test.YteaccanhahmclaaVol
namespace Go.Proofs.Yteaccanhahmclaa
open Go.RowKit
namespace Vol
open Kit Plane Poly
/-- A time is in one of the first n intervals. -/
def inB (F T : Nat → Int) (t : Int) : Nat → Bool
  | 0 => false
  | k + 1 => inB F T t k || decide (F k ≤ t ∧ t < T k)
theorem inB_iff {F T : Nat → Int} {t : Int} : ∀ {n : Nat}, inB F T t n = true ↔ ∃ k, k < n ∧ F k ≤ t ∧ t < T k
  | 0 => ⟨fun h => (by cases h), fun ⟨k, hk, _⟩ => absurd hk (Nat.not_lt_zero k)⟩
  | n + 1 => by
    show (inB F T t n || decide (F n ≤ t ∧ t < T n)) = true ↔ _
    rw [Bool.or_eq_true, inB_iff, decide_eq_true_eq]
    constructor
    · rintro (⟨k, hk, h⟩ | h)
      · exact ⟨k, by omega, h⟩
      · exact ⟨n, by omega, h⟩
    · rintro ⟨k, hk, h⟩
      rcases Nat.lt_or_ge k n with hl | hl
      · exact Or.inl ⟨k, hl, h⟩
      · rw [show k = n from by omega] at h; exact Or.inr h
theorem b_eq {a b : Bool} (h : a = b) : Ending.returned (.bool a) = Ending.returned (.bool b) := by rw [h]
set_option maxHeartbeats 1000000 in
theorem clos_w (f t q : Int) (b : Nat) (w : World) (hq : w.cell? ⟨b, 0, none⟩ = some (.int .i64 q)) :
    Calls Try.prog 94 #[.agg #[.int .i64 f, .int .i64 t], .pointer (some ⟨b, 0, none⟩)] w fun e w' => e = .returned (.bool (decide (f ≤ q ∧ q < t))) ∧ Below w.heap.size w w' := by
  have W1 := Lib.hid (b_alloc (Below.refl w.heap.size w) (.cells #[.int .i64 f, .int .i64 t] 102))
  have q1 := keep W1.out hq
  go_enter Try.func94, Try.ntmps94
  go_wp2_with fail
  all_goals (go_ret; exact ⟨b_eq (by first | (symm; rw [decide_eq_true_eq]; omega) | (symm; rw [decide_eq_false_iff_not]; omega) | grind), W1.out⟩)
set_option maxRecDepth 100000 in
set_option maxHeartbeats 2000000 in
theorem idx_w (n cap b off pb : Nat) (F T : Nat → Int) (q : Int) (w : World) (hm : cap ≤ 9223372036854775807) (hc : n ≤ cap) (HV : Hid (∀ k, k < n → E2 w b off k (F k) (T k))) (HQ : Hid (w.cell? ⟨pb, 0, none⟩ = some (.int .i64 q))) :
    Calls Try.prog 140 #[.slice (some ⟨b, off, none⟩) n cap, .func (.func 94) #[] #[.pointer (some ⟨pb, 0, none⟩)]] w fun e w' => (∃ r : Int, e = .returned (.int .i64 r) ∧ decide (0 ≤ r) = inB F T q n) ∧ Below w.heap.size w w' := by
  go_enter Try.func140, Try.ntmps140
  go_wp2_with fail
  go_loopw [5, 8] (fun _ s wr => ∃ k : Nat, k ≤ n ∧ s = .int .i64 k ∧ inB F T q k = false ∧ Below w.heap.size w wr) (fun _ s _ => n - (intOf s).toNat)
  case atStart => exact ⟨0, Nat.zero_le _, rfl, rfl, Below.refl _ _⟩
  case round =>
    obtain ⟨k, hk, rfl, hno, hbl⟩ := hrel
    have HN := Lib.hid hno; have HB := Lib.hid hbl; clear hno
    by_cases hlt : k < n
    · obtain ⟨c0, c1⟩ := e2_keep hbl (HV.out k hlt)
      have hl : (k : Int) < (n : Int) := by omega
      have hcall := clos_w (F k) (T k) q pb wr (keep hbl HQ.out)
      have HS : Hid (inB F T q (k + 1) = decide (F k ≤ q ∧ q < T k)) := Lib.hid (by show (inB F T q k || _) = _; rw [HN.out]; rfl)
      clear hbl
      by_cases hin : F k ≤ q ∧ q < T k
      · rw [decide_eq_true hin] at hcall
        go_wp2_with fail
        (with_reducible refine hcall.mono ?_); rintro e w' ⟨rfl, hb'⟩
        go_wp2_with fail
        go_ret
        refine ⟨⟨_, rfl, ?_⟩, b_next HB.out hb'⟩
        rw [inB_iff.2 ⟨k, hlt, hin⟩, decide_eq_true_eq]
        omega
      · rw [decide_eq_false hin] at hcall
        have hs := HS.out
        rw [decide_eq_false hin] at hs
        have HS2 := Lib.hid hs; clear hs
        go_wp2_with fail
        (with_reducible refine hcall.mono ?_); rintro e w' ⟨rfl, hb'⟩
        go_wp2_with fail
        first
          | exact ⟨⟨k + 1, by omega, by go_num, HS2.out, b_next HB.out hb'⟩, by simp [intOf]; omega⟩
          | (go_roundw
             case rel => exact ⟨k + 1, by omega, by go_num, HS2.out, b_next HB.out hb'⟩
             case measure => simp [intOf]; omega)
    · have he : k = n := by omega
      have hl : ¬ (k : Int) < (n : Int) := by omega
      clear hbl
      go_wp2_with fail
      go_ret
      exact ⟨⟨_, rfl, by rw [← he, HN.out]; rfl⟩, HB.out⟩
set_option maxHeartbeats 1000000 in
theorem idx_none (A : Option Addr) (cap : Nat) (f : Value) (w : World) :
    Calls Try.prog 140 #[.slice A 0 cap, f] w fun e w' => e = .returned (.int .i64 (-1)) ∧ Below w.heap.size w w' := by
  go_enter Try.func140, Try.ntmps140
  go_wp2_with fail
  go_loopw [8] (fun s wr => s = .int .i64 0 ∧ Below w.heap.size w wr) (fun _ _ => 0)
  case atStart => exact ⟨rfl, Below.refl _ _⟩
  case round =>
    obtain ⟨rfl, hbl⟩ := hrel
    go_wp2_with fail
    all_goals (go_ret; exact ⟨rfl, hbl⟩)
/-- slices.IndexFunc, whatever the slice. -/
theorem idxC {v : Value} {n : Nat} {F T : Nat → Int} {w : World} (hv : QV w v n F T) (pb : Nat) (q : Int) (hq : w.cell? ⟨pb, 0, none⟩ = some (.int .i64 q)) :
    Calls Try.prog 140 #[v, .func (.func 94) #[] #[.pointer (some ⟨pb, 0, none⟩)]] w fun e w' => (∃ r : Int, e = .returned (.int .i64 r) ∧ decide (0 ≤ r) = inB F T q n) ∧ Below w.heap.size w w' := by
  rcases hv with ⟨rfl, h⟩ | ⟨h0, b, off, cap, rfl, hc, hm, HV⟩
  · rcases h with rfl | ⟨a, cap, rfl, -⟩
    · exact (idx_none none 0 _ w).mono fun e w' ⟨he, hb⟩ => ⟨⟨_, he, rfl⟩, hb⟩
    · exact (idx_none (some a) cap _ w).mono fun e w' ⟨he, hb⟩ => ⟨⟨_, he, rfl⟩, hb⟩
  · exact idx_w n cap b off pb F T q w hm hc (Lib.hid HV) (Lib.hid hq)
set_option maxHeartbeats 1000000 in
theorem has_any {v f : Value} {B : Bool} (w : World) (H : Hid (∀ w1, Below w.heap.size w w1 → Calls Try.prog 140 #[v, f] w1 fun e w' => (∃ r : Int, e = .returned (.int .i64 r) ∧ decide (0 ≤ r) = B) ∧ Below w1.heap.size w1 w')) :
    Calls Try.prog 93 #[v, f] w fun e w' => e = .returned (.bool B) ∧ Below w.heap.size w w' := by
  go_enter Try.func93, Try.ntmps93
  go_wp2_with fail
  (with_reducible refine (H.out _ (Below.refl _ _)).mono ?_); rintro e w1 ⟨⟨r, rfl, hr⟩, hb⟩
  have HB := Lib.hid hb; have HR := Lib.hid hr; clear hb hr
  go_wp2_with fail
  all_goals (go_ret; exact ⟨b_eq (by first | exact HR.out | (rw [← HR.out]; first | (symm; rw [decide_eq_true_eq]; omega) | (symm; rw [decide_eq_false_iff_not]; omega))), HB.out⟩)
/-- volume.During's answer. -/
def durB (n : Nat) (F T : Nat → Int) (q : Int) : Bool := decide (ckS n F T = 0) && inB F T q n
set_option maxHeartbeats 1000000 in
theorem dur_bad (v : Value) (E q : Int) (w : World) (C : Hid (CsC v E w)) (_hE1 : (E == 0) = false) (hE2 : (E != 0) = true) :
    Calls Try.prog 42 #[v, .int .i64 q] w fun e w' => e = .returned (.tuple #[.bool false, .int .i64 E]) ∧ Below w.heap.size w w' := by
  have W1 := Lib.hid (b_alloc (Below.refl w.heap.size w) (.cells #[.int .i64 q] 3))
  go_enter Try.func42, Try.ntmps42
  go_wp2_with fail
  (with_reducible refine (C.out _ W1.out).mono ?_); rintro e w1 ⟨rfl, h⟩
  have W2 := Lib.hid (b_next W1.out h); clear h
  go_wp2_with fail
  all_goals (go_ret2; exact ⟨rfl, W2.out⟩)
set_option maxHeartbeats 1000000 in
theorem dur_ok (v : Value) (B : Bool) (q : Int) (w : World) (C : Hid (CsC v 0 w)) (H : Hid (∀ w1 pb, Below w.heap.size w w1 → w1.cell? ⟨pb, 0, none⟩ = some (.int .i64 q) → Calls Try.prog 140 #[v, .func (.func 94) #[] #[.pointer (some ⟨pb, 0, none⟩)]] w1 fun e w' => (∃ r : Int, e = .returned (.int .i64 r) ∧ decide (0 ≤ r) = B) ∧ Below w1.heap.size w1 w')) :
    Calls Try.prog 42 #[v, .int .i64 q] w fun e w' => e = .returned (.tuple #[.bool B, .int .i64 0]) ∧ Below w.heap.size w w' := by
  have W1 := Lib.hid (b_alloc (Below.refl w.heap.size w) (.cells #[.int .i64 q] 3))
  have Q1 : Hid ((w.alloc (.cells #[.int .i64 q] 3)).cell? ⟨w.heap.size, 0, none⟩ = some (.int .i64 q)) := Lib.hid (by simp)
  have hmf : ∀ fn first cap w, (Instr.makeFunc fn first cap).run Try.prog w = .ok (.func fn first cap) w := fun _ _ _ _ => rfl
  go_enter Try.func42, Try.ntmps42
  go_wp2_with fail
  (with_reducible refine (C.out _ W1.out).mono ?_); rintro e w1 ⟨rfl, h⟩
  have W2 := Lib.hid (b_next W1.out h); have Q2 := Lib.hid (keep h Q1.out); clear h
  go_wp2_with fail
  (with_reducible refine (has_any w1 (Lib.hid fun w2 hb => H.out w2 _ (b_next W2.out hb) (keep hb Q2.out))).mono ?_); rintro e w3 ⟨rfl, h⟩
  have W3 := Lib.hid (b_next W2.out h); clear h
  go_wp2_with fail
  all_goals (go_ret2; exact ⟨rfl, W3.out⟩)
theorem durC {v : Value} {n : Nat} {F T : Nat → Int} {w : World} (hv : QV w v n F T) (q : Int) :
    Calls Try.prog 42 #[v, .int .i64 q] w fun e w' => e = .returned (.tuple #[.bool (durB n F T q), .int .i64 (ckS n F T)]) ∧ Below w.heap.size w w' := by
  have C := spansC hv
  unfold durB
  by_cases h : ckS n F T = 0
  · rw [h] at C ⊢
    refine dur_ok v _ q w (Lib.hid C) (Lib.hid fun w1 pb hb hq => ?_)
    rw [decide_eq_true rfl, Bool.true_and]
    exact idxC (qv_keep hb hv) pb q hq
  · rw [decide_eq_false h, Bool.false_and]
    exact dur_bad v _ q w (Lib.hid C) (by simp [h]) (by simp [h])
end Vol
end Go.Proofs.Yteaccanhahmclaa
