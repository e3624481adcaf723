/- Joined texts: Vol, VolD, PolyC, PolyD, Mul64. -/
import Derived.Test.YteieagihdflapaaGreatDoorJ29
import Derived.Test.YteieagihdflapaaGreatDoorJ08
import Derived.Test.YteieagihdflapaaGreatDoorJ02
import Derived.Shelf.Bits.Mul64
namespace Go.Proofs.YteieagihdflapaaGreatDoor
open Go.RowKit
namespace Vol
open Kit Plane Poly
/-- An interval that is permitted. -/
def okS (f t : Int) : Prop := 0 ≤ f ∧ t ≤ 200000 ∧ f < t
instance (f t : Int) : Decidable (okS f t) := by unfold okS; exact inferInstance
def okAll (F T : Nat → Int) : Nat → Bool
  | 0 => true
  | k + 1 => okAll F T k && decide (okS (F k) (T k))
theorem okAll_iff {F T : Nat → Int} : ∀ {n : Nat}, okAll F T n = true ↔ ∀ k, k < n → okS (F k) (T k)
  | 0 => ⟨fun _ k hk => by omega, fun _ => rfl⟩
  | n + 1 => by
    show (okAll F T n && decide (okS (F n) (T n))) = true ↔ _
    rw [Bool.and_eq_true, okAll_iff, decide_eq_true_eq]
    exact ⟨fun h k hk => by
      rcases Nat.lt_or_ge k n with hl | hl
      · exact h.1 k hl
      · rw [show k = n from by omega]; exact h.2, fun h => ⟨fun k hk => h k (by omega), h n (by omega)⟩⟩
/-- CheckSpans' error. -/
def ckS (n : Nat) (F T : Nat → Int) : Int := if 256 < n then 2 else if okAll F T n then 0 else 12
theorem ckS_ok {n : Nat} {F T : Nat → Int} (h : ckS n F T = 0) : n ≤ 256 ∧ ∀ k, k < n → okS (F k) (T k) := by
  unfold ckS at h
  by_cases h1 : 256 < n
  · rw [if_pos h1] at h; exact absurd h (by decide)
  · rw [if_neg h1] at h
    cases ha : okAll F T n with
    | false => rw [ha] at h; exact absurd h (by decide)
    | true => exact ⟨by omega, okAll_iff.1 ha⟩
abbrev CsC (v : Value) (E : Int) (w : World) : Prop := ∀ w1, Below w.heap.size w w1 → Calls Tryz.prog 107 #[v] w1 fun e w' => e = .returned (.int .i64 E) ∧ Below w1.heap.size w1 w'
set_option maxHeartbeats 1000000 in
theorem spans_big (A : Option Addr) (n cap : Nat) (w : World) (hn : 256 < n) (_hc : n ≤ cap) (_hm : cap ≤ 9223372036854775807) : Calls Tryz.prog 107 #[.slice A n cap] w fun e w' => e = .returned (.int .i64 2) ∧ w = w' := by
  go_enter Tryz.func107, Tryz.ntmps107
  go_wp2
  go_ret
  exact ⟨rfl, rfl⟩
set_option maxHeartbeats 1000000 in
theorem spans_none (A : Option Addr) (cap : Nat) (w : World) : Calls Tryz.prog 107 #[.slice A 0 cap] w fun e w' => e = .returned (.int .i64 0) ∧ Below w.heap.size w w' := by
  go_enter Tryz.func107, Tryz.ntmps107
  go_wp2_with fail
  go_loopw [10] (fun s wr => s = .int .i64 0 ∧ Below w.heap.size w wr) (fun _ _ => 0)
  case atStart => exact ⟨rfl, Below.refl _ _⟩
  case round =>
    obtain ⟨rfl, hbl⟩ := hrel
    go_wp2_with fail
    all_goals (go_ret; exact ⟨rfl, hbl⟩)
set_option maxRecDepth 100000 in
set_option maxHeartbeats 4000000 in
theorem spans_w (n cap b off : Nat) (F T : Nat → Int) (E : Int) (w : World) (_h0 : 0 < n) (hn : n ≤ 256) (hc : n ≤ cap) (hm : cap ≤ 9223372036854775807) (HV : Hid (∀ k, k < n → E2 w b off k (F k) (T k))) (HE : Hid (E = if okAll F T n then 0 else 12)) :
    Calls Tryz.prog 107 #[.slice (some ⟨b, off, none⟩) n cap] w fun e w' => e = .returned (.int .i64 E) ∧ Below w.heap.size w w' := by
  go_enter Tryz.func107, Tryz.ntmps107
  go_wp2_with fail
  go_loopw [10] (fun s wr => ∃ k : Nat, k ≤ n ∧ s = .int .i64 k ∧ okAll F T k = true ∧ Below w.heap.size w wr) (fun s _ => n - (intOf s).toNat)
  case atStart => exact ⟨0, Nat.zero_le _, rfl, rfl, Below.refl _ _⟩
  case round =>
    obtain ⟨k, hk, rfl, hok, hbl⟩ := hrel
    have HO := Lib.hid hok; clear hok
    by_cases hlt : k < n
    · obtain ⟨c0, c1⟩ := e2_keep hbl (HV.out k hlt)
      have hl : (k : Int) < (n : Int) := by omega
      have X1 := Lib.hid (b_next hbl (b_alloc (Below.refl wr.heap.size wr) (.cells #[.int .i64 (F k), .int .i64 (T k)] 35))); clear hbl
      have hno : ¬ okS (F k) (T k) → E = 12 := fun h => by
        rw [HE.out]
        cases ha : okAll F T n with
        | true => exact absurd (okAll_iff.1 ha k hlt) h
        | false => rfl
      have HN := Lib.hid hno; clear hno
      by_cases hs : okS (F k) (T k)
      · have HO2 : Hid (okAll F T (k + 1) = true) := Lib.hid (by show (okAll F T k && decide _) = true; rw [HO.out, decide_eq_true hs]; rfl)
        unfold okS at hs
        obtain ⟨s1, s2, s3⟩ := hs
        have s1' : ¬ F k < 0 := by omega
        have s2' : ¬ 200000 < T k := by omega
        have s3' : ¬ T k ≤ F k := by omega
        go_wp2_with fail
        first
          | exact ⟨⟨k + 1, by omega, by go_num, HO2.out, X1.out⟩, by simp [intOf]; omega⟩
          | (go_roundw
             case rel => first | exact ⟨k + 1, by omega, by go_num, HO2.out, X1.out⟩ | ((repeat apply Exists.intro); exact ⟨⟨k + 1, by omega, by go_num, HO2.out, X1.out⟩, rfl⟩)
             case measure => simp [intOf]; omega)
      · have he := HN.out hs
        subst he
        unfold okS at hs
        go_wp2_with fail
        all_goals first | (exfalso; omega) | (go_ret; exact ⟨rfl, X1.out⟩)
    · have he : k = n := by omega
      have hl : ¬ (k : Int) < (n : Int) := by omega
      have h0 : E = 0 := by rw [HE.out, ← he, HO.out]; rfl
      subst h0
      go_wp2_with fail
      go_ret
      exact ⟨rfl, hbl⟩
theorem spansC {v : Value} {n : Nat} {F T : Nat → Int} {w : World} (hv : QV w v n F T) : CsC v (ckS n F T) w := fun w1 hb => by
  rcases qv_keep hb hv with ⟨rfl, h⟩ | ⟨h0, b, off, cap, rfl, hc, hm, HV⟩
  · rcases h with rfl | ⟨a, cap, rfl, -⟩
    · exact spans_none none 0 w1
    · exact spans_none (some a) cap w1
  · unfold ckS
    by_cases h : 256 < n
    · rw [if_pos h]
      exact (spans_big _ n cap w1 h hc hm).mono fun e w' ⟨he, hw⟩ => ⟨he, hw ▸ Below.refl _ _⟩
    · rw [if_neg h]
      exact spans_w n cap b off F T _ w1 h0 (by omega) hc hm (Lib.hid HV) (Lib.hid rfl)
end Vol
end Go.Proofs.YteieagihdflapaaGreatDoor
namespace Go.Proofs.YteieagihdflapaaGreatDoor
open Go.RowKit
namespace Vol
open Kit Plane Poly
/-- A time is in one of the first n intervals. -/
def inB (F T : Nat → Int) (t : Int) : Nat → Bool
  | 0 => false
  | k + 1 => inB F T t k || decide (F k ≤ t ∧ t < T k)
theorem inB_iff {F T : Nat → Int} {t : Int} : ∀ {n : Nat}, inB F T t n = true ↔ ∃ k, k < n ∧ F k ≤ t ∧ t < T k
  | 0 => ⟨fun h => (by cases h), fun ⟨k, hk, _⟩ => absurd hk (Nat.not_lt_zero k)⟩
  | n + 1 => by
    show (inB F T t n || decide (F n ≤ t ∧ t < T n)) = true ↔ _
    rw [Bool.or_eq_true, inB_iff, decide_eq_true_eq]
    constructor
    · rintro (⟨k, hk, h⟩ | h)
      · exact ⟨k, by omega, h⟩
      · exact ⟨n, by omega, h⟩
    · rintro ⟨k, hk, h⟩
      rcases Nat.lt_or_ge k n with hl | hl
      · exact Or.inl ⟨k, hl, h⟩
      · rw [show k = n from by omega] at h; exact Or.inr h
theorem b_eq {a b : Bool} (h : a = b) : Ending.returned (.bool a) = Ending.returned (.bool b) := by rw [h]
set_option maxHeartbeats 1000000 in
theorem clos_w (f t q : Int) (b : Nat) (w : World) (hq : w.cell? ⟨b, 0, none⟩ = some (.int .i64 q)) :
    Calls Tryz.prog 109 #[.agg #[.int .i64 f, .int .i64 t], .pointer (some ⟨b, 0, none⟩)] w fun e w' => e = .returned (.bool (decide (f ≤ q ∧ q < t))) ∧ Below w.heap.size w w' := by
  have W1 := Lib.hid (b_alloc (Below.refl w.heap.size w) (.cells #[.int .i64 f, .int .i64 t] 35))
  have q1 := keep W1.out hq
  go_enter Tryz.func109, Tryz.ntmps109
  go_wp2_with fail
  all_goals (go_ret; exact ⟨b_eq (by first | (symm; rw [decide_eq_true_eq]; omega) | (symm; rw [decide_eq_false_iff_not]; omega) | grind), W1.out⟩)
set_option maxRecDepth 100000 in
set_option maxHeartbeats 2000000 in
theorem idx_w (n cap b off pb : Nat) (F T : Nat → Int) (q : Int) (w : World) (hm : cap ≤ 9223372036854775807) (hc : n ≤ cap) (HV : Hid (∀ k, k < n → E2 w b off k (F k) (T k))) (HQ : Hid (w.cell? ⟨pb, 0, none⟩ = some (.int .i64 q))) :
    Calls Tryz.prog 142 #[.slice (some ⟨b, off, none⟩) n cap, .func (.func 109) #[] #[.pointer (some ⟨pb, 0, none⟩)]] w fun e w' => (∃ r : Int, e = .returned (.int .i64 r) ∧ decide (0 ≤ r) = inB F T q n) ∧ Below w.heap.size w w' := by
  go_enter Tryz.func142, Tryz.ntmps142
  go_wp2_with fail
  go_loopw [5, 8] (fun _ s wr => ∃ k : Nat, k ≤ n ∧ s = .int .i64 k ∧ inB F T q k = false ∧ Below w.heap.size w wr) (fun _ s _ => n - (intOf s).toNat)
  case atStart => exact ⟨0, Nat.zero_le _, rfl, rfl, Below.refl _ _⟩
  case round =>
    obtain ⟨k, hk, rfl, hno, hbl⟩ := hrel
    have HN := Lib.hid hno; have HB := Lib.hid hbl; clear hno
    by_cases hlt : k < n
    · obtain ⟨c0, c1⟩ := e2_keep hbl (HV.out k hlt)
      have hl : (k : Int) < (n : Int) := by omega
      have hcall := clos_w (F k) (T k) q pb wr (keep hbl HQ.out)
      have HS : Hid (inB F T q (k + 1) = decide (F k ≤ q ∧ q < T k)) := Lib.hid (by show (inB F T q k || _) = _; rw [HN.out]; rfl)
      clear hbl
      by_cases hin : F k ≤ q ∧ q < T k
      · rw [decide_eq_true hin] at hcall
        go_wp2_with fail
        (with_reducible refine hcall.mono ?_); rintro e w' ⟨rfl, hb'⟩
        go_wp2_with fail
        go_ret
        refine ⟨⟨_, rfl, ?_⟩, b_next HB.out hb'⟩
        rw [inB_iff.2 ⟨k, hlt, hin⟩, decide_eq_true_eq]
        omega
      · rw [decide_eq_false hin] at hcall
        have hs := HS.out
        rw [decide_eq_false hin] at hs
        have HS2 := Lib.hid hs; clear hs
        go_wp2_with fail
        (with_reducible refine hcall.mono ?_); rintro e w' ⟨rfl, hb'⟩
        go_wp2_with fail
        first
          | exact ⟨⟨k + 1, by omega, by go_num, HS2.out, b_next HB.out hb'⟩, by simp [intOf]; omega⟩
          | (go_roundw
             case rel => exact ⟨k + 1, by omega, by go_num, HS2.out, b_next HB.out hb'⟩
             case measure => simp [intOf]; omega)
    · have he : k = n := by omega
      have hl : ¬ (k : Int) < (n : Int) := by omega
      clear hbl
      go_wp2_with fail
      go_ret
      exact ⟨⟨_, rfl, by rw [← he, HN.out]; rfl⟩, HB.out⟩
set_option maxHeartbeats 1000000 in
theorem idx_none (A : Option Addr) (cap : Nat) (f : Value) (w : World) :
    Calls Tryz.prog 142 #[.slice A 0 cap, f] w fun e w' => e = .returned (.int .i64 (-1)) ∧ Below w.heap.size w w' := by
  go_enter Tryz.func142, Tryz.ntmps142
  go_wp2_with fail
  go_loopw [8] (fun s wr => s = .int .i64 0 ∧ Below w.heap.size w wr) (fun _ _ => 0)
  case atStart => exact ⟨rfl, Below.refl _ _⟩
  case round =>
    obtain ⟨rfl, hbl⟩ := hrel
    go_wp2_with fail
    all_goals (go_ret; exact ⟨rfl, hbl⟩)
/-- slices.IndexFunc, whatever the slice. -/
theorem idxC {v : Value} {n : Nat} {F T : Nat → Int} {w : World} (hv : QV w v n F T) (pb : Nat) (q : Int) (hq : w.cell? ⟨pb, 0, none⟩ = some (.int .i64 q)) :
    Calls Tryz.prog 142 #[v, .func (.func 109) #[] #[.pointer (some ⟨pb, 0, none⟩)]] w fun e w' => (∃ r : Int, e = .returned (.int .i64 r) ∧ decide (0 ≤ r) = inB F T q n) ∧ Below w.heap.size w w' := by
  rcases hv with ⟨rfl, h⟩ | ⟨h0, b, off, cap, rfl, hc, hm, HV⟩
  · rcases h with rfl | ⟨a, cap, rfl, -⟩
    · exact (idx_none none 0 _ w).mono fun e w' ⟨he, hb⟩ => ⟨⟨_, he, rfl⟩, hb⟩
    · exact (idx_none (some a) cap _ w).mono fun e w' ⟨he, hb⟩ => ⟨⟨_, he, rfl⟩, hb⟩
  · exact idx_w n cap b off pb F T q w hm hc (Lib.hid HV) (Lib.hid hq)
set_option maxHeartbeats 1000000 in
theorem has_any {v f : Value} {B : Bool} (w : World) (H : Hid (∀ w1, Below w.heap.size w w1 → Calls Tryz.prog 142 #[v, f] w1 fun e w' => (∃ r : Int, e = .returned (.int .i64 r) ∧ decide (0 ≤ r) = B) ∧ Below w1.heap.size w1 w')) :
    Calls Tryz.prog 108 #[v, f] w fun e w' => e = .returned (.bool B) ∧ Below w.heap.size w w' := by
  go_enter Tryz.func108, Tryz.ntmps108
  go_wp2_with fail
  (with_reducible refine (H.out _ (Below.refl _ _)).mono ?_); rintro e w1 ⟨⟨r, rfl, hr⟩, hb⟩
  have HB := Lib.hid hb; have HR := Lib.hid hr; clear hb hr
  go_wp2_with fail
  all_goals (go_ret; exact ⟨b_eq (by first | exact HR.out | (rw [← HR.out]; first | (symm; rw [decide_eq_true_eq]; omega) | (symm; rw [decide_eq_false_iff_not]; omega))), HB.out⟩)
/-- volume.During's answer. -/
def durB (n : Nat) (F T : Nat → Int) (q : Int) : Bool := decide (ckS n F T = 0) && inB F T q n
set_option maxHeartbeats 1000000 in
theorem dur_bad (v : Value) (E q : Int) (w : World) (C : Hid (CsC v E w)) (_hE1 : (E == 0) = false) (hE2 : (E != 0) = true) :
    Calls Tryz.prog 57 #[v, .int .i64 q] w fun e w' => e = .returned (.tuple #[.bool false, .int .i64 E]) ∧ Below w.heap.size w w' := by
  have W1 := Lib.hid (b_alloc (Below.refl w.heap.size w) (.cells #[.int .i64 q] 3))
  go_enter Tryz.func57, Tryz.ntmps57
  go_wp2_with fail
  (with_reducible refine (C.out _ W1.out).mono ?_); rintro e w1 ⟨rfl, h⟩
  have W2 := Lib.hid (b_next W1.out h); clear h
  go_wp2_with fail
  all_goals (go_ret2; exact ⟨rfl, W2.out⟩)
set_option maxHeartbeats 1000000 in
theorem dur_ok (v : Value) (B : Bool) (q : Int) (w : World) (C : Hid (CsC v 0 w)) (H : Hid (∀ w1 pb, Below w.heap.size w w1 → w1.cell? ⟨pb, 0, none⟩ = some (.int .i64 q) → Calls Tryz.prog 142 #[v, .func (.func 109) #[] #[.pointer (some ⟨pb, 0, none⟩)]] w1 fun e w' => (∃ r : Int, e = .returned (.int .i64 r) ∧ decide (0 ≤ r) = B) ∧ Below w1.heap.size w1 w')) :
    Calls Tryz.prog 57 #[v, .int .i64 q] w fun e w' => e = .returned (.tuple #[.bool B, .int .i64 0]) ∧ Below w.heap.size w w' := by
  have W1 := Lib.hid (b_alloc (Below.refl w.heap.size w) (.cells #[.int .i64 q] 3))
  have Q1 : Hid ((w.alloc (.cells #[.int .i64 q] 3)).cell? ⟨w.heap.size, 0, none⟩ = some (.int .i64 q)) := Lib.hid (by simp)
  have hmf : ∀ fn first cap w, (Instr.makeFunc fn first cap).run Tryz.prog w = .ok (.func fn first cap) w := fun _ _ _ _ => rfl
  go_enter Tryz.func57, Tryz.ntmps57
  go_wp2_with fail
  (with_reducible refine (C.out _ W1.out).mono ?_); rintro e w1 ⟨rfl, h⟩
  have W2 := Lib.hid (b_next W1.out h); have Q2 := Lib.hid (keep h Q1.out); clear h
  go_wp2_with fail
  (with_reducible refine (has_any w1 (Lib.hid fun w2 hb => H.out w2 _ (b_next W2.out hb) (keep hb Q2.out))).mono ?_); rintro e w3 ⟨rfl, h⟩
  have W3 := Lib.hid (b_next W2.out h); clear h
  go_wp2_with fail
  all_goals (go_ret2; exact ⟨rfl, W3.out⟩)
theorem durC {v : Value} {n : Nat} {F T : Nat → Int} {w : World} (hv : QV w v n F T) (q : Int) :
    Calls Tryz.prog 57 #[v, .int .i64 q] w fun e w' => e = .returned (.tuple #[.bool (durB n F T q), .int .i64 (ckS n F T)]) ∧ Below w.heap.size w w' := by
  have C := spansC hv
  unfold durB
  by_cases h : ckS n F T = 0
  · rw [h] at C ⊢
    refine dur_ok v _ q w (Lib.hid C) (Lib.hid fun w1 pb hb hq => ?_)
    rw [decide_eq_true rfl, Bool.true_and]
    exact idxC (qv_keep hb hv) pb q hq
  · rw [decide_eq_false h, Bool.false_and]
    exact dur_bad v _ q w (Lib.hid C) (by simp [h]) (by simp [h])
end Vol
end Go.Proofs.YteieagihdflapaaGreatDoor
namespace Go.Proofs.YteieagihdflapaaGreatDoor
open Go.RowKit
namespace Poly
open Kit Plane
/-- An edge crosses the ray from a point to the east. -/
def cr (ya yb qy t : Int) : Bool := (decide (qy < ya) != decide (qy < yb)) && ((decide (ya < yb) && decide (0 < t)) || (decide (yb < ya) && decide (t < 0)))
/-- The point lies on one of the first k edges. -/
def plon (n : Nat) (X Y : Nat → Int) (qx qy : Int) : Nat → Bool
  | 0 => false
  | k + 1 => plon n X Y qx qy k || onB (X k) (Y k) (X (nx n k)) (Y (nx n k)) qx qy
/-- 1 if an odd number of the first k edges cross the ray, else -1. -/
def pin (n : Nat) (X Y : Nat → Int) (qx qy : Int) : Nat → Int
  | 0 => -1
  | k + 1 => if cr (Y k) (Y (nx n k)) qy (sgn (crs (X k) (Y k) (X (nx n k)) (Y (nx n k)) qx qy)) then - pin n X Y qx qy k else pin n X Y qx qy k
def place (n : Nat) (X Y : Nat → Int) (qx qy : Int) : Int := if plon n X Y qx qy n then 0 else pin n X Y qx qy n
theorem pin_bd (n : Nat) (X Y : Nat → Int) (qx qy : Int) : ∀ k, pin n X Y qx qy k = 1 ∨ pin n X Y qx qy k = -1
  | 0 => Or.inr rfl
  | k + 1 => by
    have h := pin_bd n X Y qx qy k
    show (if cr (Y k) (Y (nx n k)) qy (sgn (crs (X k) (Y k) (X (nx n k)) (Y (nx n k)) qx qy)) then - pin n X Y qx qy k else pin n X Y qx qy k) = 1 ∨ (if cr (Y k) (Y (nx n k)) qy (sgn (crs (X k) (Y k) (X (nx n k)) (Y (nx n k)) qx qy)) then - pin n X Y qx qy k else pin n X Y qx qy k) = -1
    cases cr (Y k) (Y (nx n k)) qy (sgn (crs (X k) (Y k) (X (nx n k)) (Y (nx n k)) qx qy)) <;> simp <;> omega
theorem on_next {n : Nat} {X Y : Nat → Int} {qx qy : Int} {k : Nat} (h1 : plon n X Y qx qy k = false) (h2 : onB (X k) (Y k) (X (nx n k)) (Y (nx n k)) qx qy = false) : plon n X Y qx qy (k + 1) = false := by
  show (plon n X Y qx qy k || _) = false
  rw [h1, h2]; rfl
theorem on_stop {n : Nat} {X Y : Nat → Int} {qx qy : Int} {k : Nat} (h2 : onB (X k) (Y k) (X (nx n k)) (Y (nx n k)) qx qy = true) : ∀ m, k < m → plon n X Y qx qy m = true
  | 0, h => by omega
  | m + 1, h => by
    show (plon n X Y qx qy m || _) = true
    rcases Nat.lt_or_ge k m with hl | hl
    · rw [on_stop h2 m hl]; rfl
    · rw [show m = k from by omega, h2, Bool.or_true]
set_option maxHeartbeats 4000000 in
theorem place_w (n cap b off : Nat) (X Y : Nat → Int) (qx qy : Int) (w : World) (h0 : 0 < n) (hc : n ≤ cap) (hm : cap ≤ 9223372036854775807) (HV : Hid (∀ k, k < n → E2 w b off k (X k) (Y k))) (HN : Hid (∀ k, k < n → NxC (.slice (some ⟨b, off, none⟩) n cap) n X Y k w)) (HG : Hid (∀ k, k < n → B9 (X k) ∧ B9 (Y k))) (HQ9 : Hid (B9 qx ∧ B9 qy)) :
    Calls Tryz.prog 111 #[.slice (some ⟨b, off, none⟩) n cap, .agg #[.int .i64 qx, .int .i64 qy]] w fun e w' => e = .returned (.int .i64 (place n X Y qx qy)) ∧ Below w.heap.size w w' := by
  go_enter Tryz.func111, Tryz.ntmps111
  have hQ := p2_new w 54 qx qy
  have hW := b_alloc (Below.refl w.heap.size w) (.cells #[.int .i64 qx, .int .i64 qy] 54)
  have HQ := Lib.hid hQ; have HW := Lib.hid hW; clear hQ hW
  go_wp2_with fail
  go_loopw [5, 12] (fun s i wr => ∃ k : Nat, k ≤ n ∧ plon n X Y qx qy k = false ∧ s = .int .i64 (pin n X Y qx qy k) ∧ i = .int .i64 k ∧ Below w.heap.size w wr ∧ P2 wr w.heap.size qx qy) (fun _ i _ => n - (intOf i).toNat)
  case atStart => exact ⟨0, Nat.zero_le _, rfl, rfl, rfl, HW.out, HQ.out⟩
  case round =>
    obtain ⟨k, hk, hon, rfl, rfl, hbl, hp⟩ := hrel
    have HON := Lib.hid hon; clear hon
    by_cases hlt : k < n
    · obtain ⟨c0, c1⟩ := e2_keep hbl (HV.out k hlt)
      have hl : (k : Int) < (n : Int) := by omega
      have NN : Hid (NxC (.slice (some ⟨b, off, none⟩) n cap) n X Y k wr) := Lib.hid fun w1 hb => HN.out k hlt w1 (b_next hbl hb)
      have hpb : -1 ≤ pin n X Y qx qy k ∧ pin n X Y qx qy k ≤ 1 := by rcases pin_bd n X Y qx qy k with h | h <;> rw [h] <;> decide
      have OO : Hid (OnC (X k) (Y k) (X (nx n k)) (Y (nx n k)) qx qy (onB (X k) (Y k) (X (nx n k)) (Y (nx n k)) qx qy)) := Lib.hid fun w => onC _ _ _ _ _ _ w ⟨(HG.out k hlt).1, (HG.out k hlt).2, (HG.out _ (nx_lt h0)).1, (HG.out _ (nx_lt h0)).2, HQ9.out.1, HQ9.out.2⟩
      have TT : Hid (TuC (X k) (Y k) (X (nx n k)) (Y (nx n k)) qx qy (sgn (crs (X k) (Y k) (X (nx n k)) (Y (nx n k)) qx qy))) := Lib.hid fun w => turn _ _ _ _ _ _ w rfl ⟨(HG.out k hlt).1, (HG.out k hlt).2, (HG.out _ (nx_lt h0)).1, (HG.out _ (nx_lt h0)).2, HQ9.out.1, HQ9.out.2⟩
      go_wp2_with fail
      refine fresh_region (by kernel_rfl) (by kernel_rfl) ?_
      apply Fq.r
      · intro wq hc hq
        (have q0 := keep hq c0; have q1 := keep hq c1; clear hc; go_simp; first | exact q2_value | exact q2_skip | (apply q2_enter; go_at_call 144; with_reducible exact NN.out _ (cls hq)))
      simp only [Act.put, List.setIfInBounds_toArray, List.set_cons_zero, List.set_cons_succ]
      apply Fq.r
      · intro wq hc hq
        (have q0 := keep hq c0; have q1 := keep hq c1; clear hc; go_simp; first | exact q2_value | exact q2_skip | (apply q2_enter; go_at_call 144; with_reducible exact NN.out _ (cls hq)))
      simp only [Act.put, List.setIfInBounds_toArray, List.set_cons_zero, List.set_cons_succ]
      apply Fq.r
      · intro wq hc hq
        (have q0 := keep hq c0; have q1 := keep hq c1; clear hc; go_simp; first | exact q2_value | exact q2_skip | (apply q2_enter; go_at_call 144; with_reducible exact NN.out _ (cls hq)))
      simp only [Act.put, List.setIfInBounds_toArray, List.set_cons_zero, List.set_cons_succ]
      apply Fq.r
      · intro wq hc hq
        (have q0 := keep hq c0; have q1 := keep hq c1; clear hc; go_simp; first | exact q2_value | exact q2_skip | (apply q2_enter; go_at_call 144; with_reducible exact NN.out _ (cls hq)))
      simp only [Act.put, List.setIfInBounds_toArray, List.set_cons_zero, List.set_cons_succ]
      apply Fq.r
      · intro wq hc hq
        (have q0 := keep hq c0; have q1 := keep hq c1; clear hc; go_simp; first | exact q2_value | exact q2_skip | (apply q2_enter; go_at_call 144; with_reducible exact NN.out _ (cls hq)))
      simp only [Act.put, List.setIfInBounds_toArray, List.set_cons_zero, List.set_cons_succ]
      apply Fq.r
      · intro wq hc hq
        (have q0 := keep hq c0; have q1 := keep hq c1; clear hc; go_simp; first | exact q2_value | exact q2_skip | (apply q2_enter; go_at_call 144; with_reducible exact NN.out _ (cls hq)))
      simp only [Act.put, List.setIfInBounds_toArray, List.set_cons_zero, List.set_cons_succ]
      apply Fq.r
      · intro wq hc hq
        (have q0 := keep hq c0; have q1 := keep hq c1; clear hc; go_simp; first | exact q2_value | exact q2_skip | (apply q2_enter; go_at_call 144; with_reducible exact NN.out _ (cls hq)))
      simp only [Act.put, List.setIfInBounds_toArray, List.set_cons_zero, List.set_cons_succ]
      refine Fq.al 7 54 #[.int .i64 0, .int .i64 0] rfl (by simp) (fun wq => by go_simp) ?_
      refine Fq.al 8 54 #[.int .i64 0, .int .i64 0] rfl (by simp) (fun wq => by go_simp) ?_
      refine Fq.st 7 #[.int .i64 (X k), .int .i64 (Y k)] 7 54 #[.int .i64 0, .int .i64 0] rfl rfl (fun wq bq hq => ⟨((wq.setCell ⟨bq, 0, none⟩ (.int .i64 (X k))).setCell ⟨bq, 1, none⟩ (.int .i64 (Y k))), ?_, blk_set (blk_set (hq) 0 (.int .i64 (X k))) 1 (.int .i64 (Y k)), only_set (only_set (only_refl _ _) 0 (.int .i64 (X k))) 1 (.int .i64 (Y k))⟩) ?_
      · (have c0 : wq.cell? ⟨bq, 0, none⟩ = some (.int .i64 0) := blk_cell hq 0; have f0 := blk_free hq 0; have c1 : wq.cell? ⟨bq, 1, none⟩ = some (.int .i64 0) := blk_cell hq 1; have f1 := blk_free hq 1; simp only [Act.put, List.setIfInBounds_toArray, List.set_cons_zero, List.set_cons_succ]; clear hq; go_simp)
      refine Fq.st 8 #[.int .i64 (X (nx n k)), .int .i64 (Y (nx n k))] 8 54 #[.int .i64 0, .int .i64 0] rfl rfl (fun wq bq hq => ⟨((wq.setCell ⟨bq, 0, none⟩ (.int .i64 (X (nx n k)))).setCell ⟨bq, 1, none⟩ (.int .i64 (Y (nx n k)))), ?_, blk_set (blk_set (hq) 0 (.int .i64 (X (nx n k)))) 1 (.int .i64 (Y (nx n k))), only_set (only_set (only_refl _ _) 0 (.int .i64 (X (nx n k)))) 1 (.int .i64 (Y (nx n k)))⟩) ?_
      · (have c0 : wq.cell? ⟨bq, 0, none⟩ = some (.int .i64 0) := blk_cell hq 0; have f0 := blk_free hq 0; have c1 : wq.cell? ⟨bq, 1, none⟩ = some (.int .i64 0) := blk_cell hq 1; have f1 := blk_free hq 1; simp only [Act.put, List.setIfInBounds_toArray, List.set_cons_zero, List.set_cons_succ]; clear hq; go_simp)
      refine Fq.nil ⟨by kernel_rfl, fun β w1 M => ?_⟩
      simp only [List.reverse_cons, List.reverse_nil, List.nil_append, List.cons_append, putAl, Act.put, List.setIfInBounds_toArray, List.set_cons_zero, List.set_cons_succ, Nat.reduceAdd]
      have z7 := blk_b2 (M.block 9 7 _ _ _ _ rfl rfl)
      have l7 := M.fresh 7 _ _ _ rfl
      have z8 := blk_b2 (M.block 10 8 _ _ _ _ rfl rfl)
      have l8 := M.fresh 8 _ _ _ rfl
      have m7_8 := made_ne M 7 8 rfl rfl (by decide)
      have hbw1 := M.below
      clear M
      generalize β 7 = p7 at *
      generalize β 8 = p8 at *
      replace hp := p2_keep hbw1 hp
      replace z7 := z7.1; replace z8 := z8.1
      cases hO : onB (X k) (Y k) (X (nx n k)) (Y (nx n k)) qx qy with
      | true =>
        rw [hO] at OO
        have HF : Hid (place n X Y qx qy = 0) := Lib.hid (by unfold place; rw [on_stop hO n hlt]; rfl)
        clear hO
        go_wp2_with fail
        refine (OO.out _).mono ?_; rintro e w2 ⟨rfl, h⟩
        have hb2 := b_next hbw1 h; clear h
        go_wp2_with fail
        go_ret
        exact ⟨ret1 HF.out.symm, b_next hbl hb2⟩
      | false =>
        rw [hO] at OO
        have HO : Hid (plon n X Y qx qy k = false ∧ onB (X k) (Y k) (X (nx n k)) (Y (nx n k)) qx qy = false) := Lib.hid ⟨HON.out, hO⟩
        clear hO
        generalize hTT : sgn (crs (X k) (Y k) (X (nx n k)) (Y (nx n k)) qx qy) = T at TT
        have HTT := Lib.hid hTT; clear hTT
        go_wp2_with fail
        refine (OO.out _).mono ?_; rintro e w2 ⟨rfl, h⟩
        replace hp := p2_keep h hp; replace z7 := p2_keep h z7; replace z8 := p2_keep h z8; have hb2 := b_next hbw1 h; clear h
        by_cases hA : qy < Y k
        · have DA := Lib.hid (decide_eq_true hA)
          by_cases hB : qy < Y (nx n k)
          · have DB := Lib.hid (decide_eq_true hB)
            have CRF : cr (Y k) (Y (nx n k)) qy (sgn (crs (X k) (Y k) (X (nx n k)) (Y (nx n k)) qx qy)) = false := by unfold cr; rw [DA.out, DB.out]; rfl
            have HS : Hid (plon n X Y qx qy (k + 1) = false ∧ pin n X Y qx qy (k + 1) = pin n X Y qx qy k) := Lib.hid ⟨on_next HO.out.1 HO.out.2, by show (if _ then _ else _) = _; rw [CRF]; rfl⟩
            clear CRF
            have dA := DA.out; have dB := DB.out
            go_wp2_with fail
            go_roundw
            case rel => first | exact ⟨k + 1, by omega, HS.out.1, by rw [HS.out.2], by go_num, b_next hbl hb2, hp⟩ | ((repeat apply Exists.intro); exact ⟨⟨k + 1, by omega, HS.out.1, by rw [HS.out.2], by go_num, b_next hbl hb2, hp⟩, rfl⟩)
            case measure => simp [intOf]; omega
          · have DB := Lib.hid (decide_eq_false hB)
            have hd : Y (nx n k) < Y k := by omega
            have hd' : ¬ Y k < Y (nx n k) := by omega
            have D1 := Lib.hid (decide_eq_true hd); have D2 := Lib.hid (decide_eq_false hd')
            have dA := DA.out; have dB := DB.out
            go_wp2_with fail
            refine (TT.out _).mono ?_; rintro e w3 ⟨rfl, h⟩
            replace hp := p2_keep h hp; have z7 := p2_keep h z7; have z8 := p2_keep h z8; have hb3 := b_next hb2 h; clear h
            by_cases hT : T < 0
            · have CRF : cr (Y k) (Y (nx n k)) qy T = true := by unfold cr; simp only [D1.out, D2.out, DA.out, DB.out, decide_eq_true hT]; rfl
              rw [← HTT.out] at CRF
              have HS : Hid (plon n X Y qx qy (k + 1) = false ∧ pin n X Y qx qy (k + 1) = - pin n X Y qx qy k) := Lib.hid ⟨on_next HO.out.1 HO.out.2, by show (if _ then _ else _) = _; rw [CRF]; rfl⟩
              clear CRF
              have dA := DA.out; have dB := DB.out
              go_wp2_with fail
              go_roundw
              case rel => first | exact ⟨k + 1, by omega, HS.out.1, by rw [HS.out.2], by go_num, b_next hbl hb3, hp⟩ | ((repeat apply Exists.intro); exact ⟨⟨k + 1, by omega, HS.out.1, by rw [HS.out.2], by go_num, b_next hbl hb3, hp⟩, rfl⟩)
              case measure => simp [intOf]; omega
            · have CRF : cr (Y k) (Y (nx n k)) qy T = false := by unfold cr; simp only [D1.out, D2.out, DA.out, DB.out, decide_eq_false hT]; rfl
              rw [← HTT.out] at CRF
              have HS : Hid (plon n X Y qx qy (k + 1) = false ∧ pin n X Y qx qy (k + 1) = pin n X Y qx qy k) := Lib.hid ⟨on_next HO.out.1 HO.out.2, by show (if _ then _ else _) = _; rw [CRF]; rfl⟩
              clear CRF
              have dA := DA.out; have dB := DB.out
              go_wp2_with fail
              go_roundw
              case rel => first | exact ⟨k + 1, by omega, HS.out.1, by rw [HS.out.2], by go_num, b_next hbl hb3, hp⟩ | ((repeat apply Exists.intro); exact ⟨⟨k + 1, by omega, HS.out.1, by rw [HS.out.2], by go_num, b_next hbl hb3, hp⟩, rfl⟩)
              case measure => simp [intOf]; omega
        · have DA := Lib.hid (decide_eq_false hA)
          by_cases hB : qy < Y (nx n k)
          · have DB := Lib.hid (decide_eq_true hB)
            have hd : Y k < Y (nx n k) := by omega
            have hd' : ¬ Y (nx n k) < Y k := by omega
            have D1 := Lib.hid (decide_eq_true hd); have D2 := Lib.hid (decide_eq_false hd')
            have dA := DA.out; have dB := DB.out
            go_wp2_with fail
            refine (TT.out _).mono ?_; rintro e w3 ⟨rfl, h⟩
            replace hp := p2_keep h hp; have z7 := p2_keep h z7; have z8 := p2_keep h z8; have hb3 := b_next hb2 h; clear h
            by_cases hT : 0 < T
            · have CRF : cr (Y k) (Y (nx n k)) qy T = true := by unfold cr; simp only [D1.out, D2.out, DA.out, DB.out, decide_eq_true hT]; rfl
              rw [← HTT.out] at CRF
              have HS : Hid (plon n X Y qx qy (k + 1) = false ∧ pin n X Y qx qy (k + 1) = - pin n X Y qx qy k) := Lib.hid ⟨on_next HO.out.1 HO.out.2, by show (if _ then _ else _) = _; rw [CRF]; rfl⟩
              clear CRF
              have dA := DA.out; have dB := DB.out
              go_wp2_with fail
              go_roundw
              case rel => first | exact ⟨k + 1, by omega, HS.out.1, by rw [HS.out.2], by go_num, b_next hbl hb3, hp⟩ | ((repeat apply Exists.intro); exact ⟨⟨k + 1, by omega, HS.out.1, by rw [HS.out.2], by go_num, b_next hbl hb3, hp⟩, rfl⟩)
              case measure => simp [intOf]; omega
            · have CRF : cr (Y k) (Y (nx n k)) qy T = false := by unfold cr; simp only [D1.out, D2.out, DA.out, DB.out, decide_eq_false hT]; rfl
              rw [← HTT.out] at CRF
              have HS : Hid (plon n X Y qx qy (k + 1) = false ∧ pin n X Y qx qy (k + 1) = pin n X Y qx qy k) := Lib.hid ⟨on_next HO.out.1 HO.out.2, by show (if _ then _ else _) = _; rw [CRF]; rfl⟩
              clear CRF
              have dA := DA.out; have dB := DB.out
              go_wp2_with fail
              go_roundw
              case rel => first | exact ⟨k + 1, by omega, HS.out.1, by rw [HS.out.2], by go_num, b_next hbl hb3, hp⟩ | ((repeat apply Exists.intro); exact ⟨⟨k + 1, by omega, HS.out.1, by rw [HS.out.2], by go_num, b_next hbl hb3, hp⟩, rfl⟩)
              case measure => simp [intOf]; omega
          · have DB := Lib.hid (decide_eq_false hB)
            have CRF : cr (Y k) (Y (nx n k)) qy (sgn (crs (X k) (Y k) (X (nx n k)) (Y (nx n k)) qx qy)) = false := by unfold cr; rw [DA.out, DB.out]; rfl
            have HS : Hid (plon n X Y qx qy (k + 1) = false ∧ pin n X Y qx qy (k + 1) = pin n X Y qx qy k) := Lib.hid ⟨on_next HO.out.1 HO.out.2, by show (if _ then _ else _) = _; rw [CRF]; rfl⟩
            clear CRF
            have dA := DA.out; have dB := DB.out
            go_wp2_with fail
            go_roundw
            case rel => first | exact ⟨k + 1, by omega, HS.out.1, by rw [HS.out.2], by go_num, b_next hbl hb2, hp⟩ | ((repeat apply Exists.intro); exact ⟨⟨k + 1, by omega, HS.out.1, by rw [HS.out.2], by go_num, b_next hbl hb2, hp⟩, rfl⟩)
            case measure => simp [intOf]; omega
    · have he : k = n := by omega
      have HE := Lib.hid he; clear he
      go_wp2_with fail
      go_ret
      exact ⟨ret1 (by unfold place; have := HON.out; rw [HE.out] at this; rw [this, HE.out]; rfl), hbl⟩
theorem placeC {v : Value} {n : Nat} {X Y : Nat → Int} {w : World} (hv : QV w v n X Y) (h0 : 0 < n) (hg : ∀ k, k < n → B9 (X k) ∧ B9 (Y k)) {qx qy : Int} (hq : B9 qx ∧ B9 qy) :
    Calls Tryz.prog 111 #[v, .agg #[.int .i64 qx, .int .i64 qy]] w fun e w' => e = .returned (.int .i64 (place n X Y qx qy)) ∧ Below w.heap.size w w' := by
  have hN := fun k (hk : k < n) => nextC hv hk
  rcases hv with ⟨h0', -⟩ | ⟨h0, b, off, cap, rfl, h1, h2, h3⟩
  · omega
  · exact place_w n cap b off X Y qx qy w h0 h1 (Nat.le_trans h2 (by decide)) (Lib.hid h3) (Lib.hid hN) (Lib.hid hg) (Lib.hid hq)
end Poly
end Go.Proofs.YteieagihdflapaaGreatDoor
namespace Go.Proofs.YteieagihdflapaaGreatDoor
open Go.RowKit
namespace Poly
open Kit Plane
/-- The first k vertices are permitted. -/
def ckg (X Y : Nat → Int) : Nat → Bool
  | 0 => true
  | k + 1 => ckg X Y k && goodB (X k) (Y k)
/-- Edge i has no point in common with edges i + 2 .. k - 1 that are not its neighbours. -/
def inn (n : Nat) (X Y : Nat → Int) (i : Nat) : Nat → Bool
  | 0 => true
  | k + 1 => inn n X Y i k && (decide (k < i + 2) || decide (nx n k = i) || !commonB (X i) (Y i) (X (nx n i)) (Y (nx n i)) (X k) (Y k) (X (nx n k)) (Y (nx n k)))
def row (n : Nat) (X Y : Nat → Int) (i : Nat) : Bool := !decide (sgn (crs (X i) (Y i) (X (nx n i)) (Y (nx n i)) (X ((i + 2) % n)) (Y ((i + 2) % n))) = 0) && inn n X Y i n
def rows (n : Nat) (X Y : Nat → Int) : Nat → Bool
  | 0 => true
  | i + 1 => rows n X Y i && row n X Y i
/-- polygon.Check's error. -/
def pck (n : Nat) (X Y : Nat → Int) : Int := if 16 < n then 2 else if n < 3 then 3 else if ckg X Y n = false then 4 else if rows n X Y n = false ∨ asum n X Y n ≤ 0 then 3 else 0
theorem ckg_iff {X Y : Nat → Int} : ∀ {n : Nat}, ckg X Y n = true ↔ ∀ k, k < n → good (X k) (Y k)
  | 0 => ⟨fun _ k hk => by omega, fun _ => rfl⟩
  | n + 1 => by
    show (ckg X Y n && goodB (X n) (Y n)) = true ↔ _
    rw [Bool.and_eq_true, ckg_iff, goodB_iff]
    exact ⟨fun h k hk => by
      rcases Nat.lt_or_ge k n with hl | hl
      · exact h.1 k hl
      · rw [show k = n from by omega]; exact h.2, fun h => ⟨fun k hk => h k (by omega), h n (by omega)⟩⟩
theorem ckg_stop {X Y : Nat → Int} {n k : Nat} (hk : k < n) (h : goodB (X k) (Y k) = false) : ckg X Y n = false := by
  cases hc : ckg X Y n with
  | false => rfl
  | true => have := ckg_iff.1 hc k hk; rw [← goodB_iff, h] at this; cases this
theorem inn_stop {n : Nat} {X Y : Nat → Int} {i k : Nat} (h : inn n X Y i (k + 1) = false) : ∀ m, k < m → inn n X Y i m = false
  | 0, hm => by omega
  | m + 1, hm => by
    rcases Nat.lt_or_ge k m with hl | hl
    · show (inn n X Y i m && _) = false; rw [inn_stop h m hl]; rfl
    · rw [show m = k from by omega]; exact h
theorem rows_stop {n : Nat} {X Y : Nat → Int} {i : Nat} (h : row n X Y i = false) : ∀ m, i < m → rows n X Y m = false
  | 0, hm => by omega
  | m + 1, hm => by
    show (rows n X Y m && row n X Y m) = false
    rcases Nat.lt_or_ge i m with hl | hl
    · rw [rows_stop h m hl]; rfl
    · rw [show m = i from by omega, h, Bool.and_false]
theorem inn_low {n : Nat} {X Y : Nat → Int} {i : Nat} : ∀ m, m ≤ i + 2 → inn n X Y i m = true
  | 0, _ => rfl
  | m + 1, h => by
    show (inn n X Y i m && (decide (m < i + 2) || _ || _)) = true
    rw [inn_low m (by omega), decide_eq_true (show m < i + 2 by omega)]; rfl
theorem tmod_nat {a n : Nat} : ((a : Int)).tmod (n : Int) = ((a % n : Nat) : Int) := by rw [Int.tmod_eq_emod_of_nonneg (by omega), Int.natCast_emod]
set_option maxRecDepth 100000 in
set_option maxHeartbeats 4000000 in
theorem check_w (n cap b off : Nat) (X Y : Nat → Int) (w : World) (h0 : 3 ≤ n) (h16 : n ≤ 16) (hc : n ≤ cap) (hm : cap ≤ 9223372036854775807) (HV : Hid (∀ k, k < n → E2 w b off k (X k) (Y k))) (HN : Hid (∀ k, k < n → NxC (.slice (some ⟨b, off, none⟩) n cap) n X Y k w))
    (HT : Hid ((∀ k, k < n → good (X k) (Y k)) → ∀ w1, Below w.heap.size w w1 → Calls Tryz.prog 146 #[.slice (some ⟨b, off, none⟩) n cap] w1 fun e w' => e = .returned (.int .i64 (asum n X Y n)) ∧ Below w1.heap.size w1 w')) :
    Calls Tryz.prog 110 #[.slice (some ⟨b, off, none⟩) n cap] w fun e w' => e = .returned (.int .i64 (pck n X Y)) ∧ Below w.heap.size w w' := by
  go_enter Tryz.func110, Tryz.ntmps110
  go_wp2_with fail
  go_loopw [19] (fun i wr => ∃ k : Nat, k ≤ n ∧ ckg X Y k = true ∧ i = .int .i64 k ∧ Below w.heap.size w wr) (fun i _ => n - (intOf i).toNat)
  case atStart => exact ⟨0, Nat.zero_le _, rfl, rfl, Below.refl _ _⟩
  case round =>
    obtain ⟨k, hk, hck, rfl, hbl⟩ := hrel
    have HK := Lib.hid hck; clear hck
    by_cases hlt : k < n
    · obtain ⟨c0, c1⟩ := e2_keep hbl (HV.out k hlt)
      have hl : (k : Int) < (n : Int) := by omega
      have CC : Hid (Chk (X k) (Y k) (chk (X k) (Y k))) := fun w => check _ _ w
      cases hg : goodB (X k) (Y k) with
      | false =>
        have HF : Hid (pck n X Y = 4) := Lib.hid (by unfold pck; rw [if_neg (by omega), if_neg (by omega), if_pos (ckg_stop hlt hg)])
        rw [chk_bad (fun g => by rw [goodB_iff.2 g] at hg; cases hg)] at CC
        clear hg
        go_wp2_with fail
        refine (CC.out _).mono ?_; rintro e w1 ⟨rfl, hb⟩
        have hb1 := b_next (b_alloc hbl _) hb; clear hb
        go_wp2_with fail
        go_ret
        exact ⟨ret1 HF.out.symm, hb1⟩
      | true =>
        have HS : Hid (ckg X Y (k + 1) = true) := Lib.hid (by show (ckg X Y k && _) = true; rw [HK.out, hg]; rfl)
        rw [chk_ok (goodB_iff.1 hg)] at CC
        clear hg
        go_wp2_with fail
        refine (CC.out _).mono ?_; rintro e w1 ⟨rfl, hb⟩
        have hb1 := b_next (b_alloc hbl _) hb; clear hb
        go_wp2_with fail
        go_roundw
        case rel => first | exact ⟨k + 1, by omega, HS.out, by go_num, hb1⟩ | ((repeat apply Exists.intro); exact ⟨⟨k + 1, by omega, HS.out, by go_num, hb1⟩, rfl⟩)
        case measure => simp [intOf]; omega
    · have he : k = n := by omega
      have HE := Lib.hid he; clear he
      have HG : Hid (∀ k, k < n → good (X k) (Y k)) := Lib.hid (ckg_iff.1 (by have := HK.out; rw [HE.out] at this; exact this))
      have HCK : Hid (ckg X Y n = true) := Lib.hid (ckg_iff.2 HG.out)
      have H9 : Hid (∀ k, k < n → B9 (X k) ∧ B9 (Y k)) := Lib.hid fun k hk => by have := HG.out k hk; constructor <;> constructor <;> omega
      obtain ⟨wa, rfl⟩ : ∃ wa : World, wa = wr := ⟨_, rfl⟩
      go_wp2_with fail
      go_loopw [31] (fun s wr => ∃ i : Nat, i ≤ n ∧ rows n X Y i = true ∧ s = .int .i64 i ∧ Below w.heap.size w wr) (fun s _ => n - (intOf s).toNat)
      case atStart => exact ⟨0, Nat.zero_le _, rfl, rfl, hbl⟩
      case round =>
        obtain ⟨i, hi, hrw, rfl, hbi⟩ := hrel
        have HR := Lib.hid hrw; clear hrw
        by_cases hlti : i < n
        · obtain ⟨c0, c1⟩ := e2_keep hbi (HV.out i hlti)
          have hj2 : (i + 2) % n < n := Nat.mod_lt _ (by omega)
          obtain ⟨j2, ej2⟩ : ∃ j2, j2 = (i + 2) % n := ⟨_, rfl⟩
          rw [← ej2] at hj2
          obtain ⟨d0, d1⟩ := e2_keep hbi (HV.out j2 hj2)
          have hl : (i : Int) < (n : Int) := by omega
          have hl2 : (j2 : Int) < (n : Int) := by omega
          have hnz : ¬ (n : Int) = 0 := by omega
          have hnz2 : ((n : Int) == 0) = false := by simpa using hnz
          have NN : Hid (NxC (.slice (some ⟨b, off, none⟩) n cap) n X Y i wr) := Lib.hid fun w1 hb => HN.out i hlti w1 (b_next hbi hb)
          have hin := nx_lt (n := n) (i := i) (by omega)
          have TT : Hid (TuC (X i) (Y i) (X (nx n i)) (Y (nx n i)) (X j2) (Y j2) (sgn (crs (X i) (Y i) (X (nx n i)) (Y (nx n i)) (X j2) (Y j2)))) := Lib.hid fun w => turn _ _ _ _ _ _ w rfl ⟨(H9.out i hlti).1, (H9.out i hlti).2, (H9.out _ hin).1, (H9.out _ hin).2, (H9.out _ hj2).1, (H9.out _ hj2).2⟩
          have hu1 : IntKind.i64.wrap ((i : Int) + 2) = (i : Int) + 2 := by rw [IntWalk.i64_in _ (by omega)]
          have hnz3 : ¬ n = 0 := by omega
          have hu2 : ((i : Int) + 2).tmod (n : Int) = (j2 : Int) := by rw [show (i : Int) + 2 = ((i + 2 : Nat) : Int) from by omega, tmod_nat, ej2]
          have hu3 : IntKind.i64.wrap (j2 : Int) = (j2 : Int) := IntWalk.i64_in _ (by omega)
          have EJ := Lib.hid ej2; clear ej2
          generalize hS : sgn (crs (X i) (Y i) (X (nx n i)) (Y (nx n i)) (X j2) (Y j2)) = S at TT
          have HSS := Lib.hid hS; clear hS
          by_cases hS0 : S = 0
          · have HF : Hid (pck n X Y = 3) := Lib.hid (by
              have hr : row n X Y i = false := by unfold row; rw [← EJ.out, HSS.out, decide_eq_true hS0]; rfl
              unfold pck; rw [if_neg (by omega), if_neg (by omega), if_neg (by rw [HCK.out]; simp), if_pos (Or.inl (rows_stop hr n hlti))])
            subst hS0
            go_wp2_with fail
            refine d_region (by kernel_rfl) (by kernel_rfl) ?_
            repeat
              first
                | (refine d_plain (by with_reducible rfl) ?_; apply Exists.intro; refine ⟨fun wq hc hq => ?_, ?_⟩)
                | (refine d_on (by with_reducible rfl) (by rfl) (by with_reducible rfl) ?_; apply Exists.intro; refine ⟨fun wq hc hq => ?_, ?_⟩)
                | (refine d_off (by with_reducible rfl) (by rfl) (by rfl) ?_)
                | (refine d_void (by with_reducible rfl) (by rfl) ?_)
              try any_goals
                (have q0 := keep hq c0; have q1 := keep hq c1; have q2 := keep hq d0; have q3 := keep hq d1; clear hc
                 go_simp
                 first
                   | rfl
                   | (go_at_call 144; with_reducible exact call_below hq (NN.out _ (cls hq)))
                   | (go_at_call 143; with_reducible exact call_below hq (TT.out _)))
              simp only [Act.put, List.setIfInBounds_toArray, List.set_cons_zero, List.set_cons_succ]
            refine d_nil ?_
            intro w2 hb2
            go_wp2_with fail
            go_ret
            exact ⟨ret1 HF.out.symm, b_next hbi hb2⟩
          · have hS1 : (S == 0) = false := by simpa using hS0
            have HS0 := Lib.hid hS0; clear hS0
            go_wp2_with fail
            refine d_region (by kernel_rfl) (by kernel_rfl) ?_
            repeat
              first
                | (refine d_plain (by with_reducible rfl) ?_; apply Exists.intro; refine ⟨fun wq hc hq => ?_, ?_⟩)
                | (refine d_on (by with_reducible rfl) (by rfl) (by with_reducible rfl) ?_; apply Exists.intro; refine ⟨fun wq hc hq => ?_, ?_⟩)
                | (refine d_off (by with_reducible rfl) (by rfl) (by rfl) ?_)
                | (refine d_void (by with_reducible rfl) (by rfl) ?_)
              try any_goals
                (have q0 := keep hq c0; have q1 := keep hq c1; have q2 := keep hq d0; have q3 := keep hq d1; clear hc
                 go_simp
                 first
                   | rfl
                   | (go_at_call 144; with_reducible exact call_below hq (NN.out _ (cls hq)))
                   | (go_at_call 143; with_reducible exact call_below hq (TT.out _)))
              simp only [Act.put, List.setIfInBounds_toArray, List.set_cons_zero, List.set_cons_succ]
            refine d_nil ?_
            intro w2 hb2
            have hbi2 := b_next hbi hb2
            clear c0 c1 d0 d1 hb2
            obtain ⟨wc, rfl⟩ : ∃ wc : World, wc = w2 := ⟨_, rfl⟩
            go_wp2_with fail
            go_loopw [8] (fun s wr => ∃ m : Nat, i + 2 ≤ m ∧ (m ≤ n ∨ m = i + 2) ∧ inn n X Y i m = true ∧ s = .int .i64 m ∧ Below w.heap.size w wr) (fun s _ => n - (intOf s).toNat)
            case atStart => exact ⟨i + 2, Nat.le_refl _, Or.inr rfl, inn_low _ (Nat.le_refl _), by go_num, hbi2⟩
            case round =>
              obtain ⟨m, hm1, hm2, hinn, rfl, hbm⟩ := hrel
              have HI := Lib.hid hinn; clear hinn
              have hm18 : m ≤ 18 := by omega
              by_cases hltm : m < n
              · obtain ⟨c0, c1⟩ := e2_keep hbm (HV.out i hlti)
                obtain ⟨e0, e1⟩ := e2_keep hbm (HV.out m hltm)
                have hlm : (m : Int) < (n : Int) := by omega
                have NI : Hid (NxC (.slice (some ⟨b, off, none⟩) n cap) n X Y i wr) := Lib.hid fun w1 hb => HN.out i hlti w1 (b_next hbm hb)
                have NM : Hid (NxC (.slice (some ⟨b, off, none⟩) n cap) n X Y m wr) := Lib.hid fun w1 hb => HN.out m hltm w1 (b_next hbm hb)
                have hmn := nx_lt (n := n) (i := m) (by omega)
                have CC : Hid (∀ w, Calls Tryz.prog 145 #[.agg #[.int .i64 (X i), .int .i64 (Y i)], .agg #[.int .i64 (X (nx n i)), .int .i64 (Y (nx n i))], .agg #[.int .i64 (X m), .int .i64 (Y m)], .agg #[.int .i64 (X (nx n m)), .int .i64 (Y (nx n m))]] w fun e w' => e = .returned (.bool (commonB (X i) (Y i) (X (nx n i)) (Y (nx n i)) (X m) (Y m) (X (nx n m)) (Y (nx n m)))) ∧ Below w.heap.size w w') :=
                  Lib.hid fun w => commonC _ _ _ _ _ _ _ _ w ⟨(H9.out i hlti).1, (H9.out i hlti).2, (H9.out _ hin).1, (H9.out _ hin).2, (H9.out m hltm).1, (H9.out m hltm).2, (H9.out _ hmn).1, (H9.out _ hmn).2⟩
                have hv1 : IntKind.i64.wrap ((m : Int) + 1) = (m : Int) + 1 := by rw [IntWalk.i64_in _ (by omega)]
                have hv2 : ((m : Int) + 1).tmod (n : Int) = ((nx n m : Nat) : Int) := by rw [show (m : Int) + 1 = ((m + 1 : Nat) : Int) from by omega, tmod_nat]; rfl
                have hv3 : IntKind.i64.wrap ((nx n m : Nat) : Int) = ((nx n m : Nat) : Int) := IntWalk.i64_in _ (by omega)
                by_cases hnm : nx n m = i
                · have dq : (((nx n m : Nat) : Int) != (i : Int)) = false := by rw [hnm]; simp
                  have dq2 : (((nx n m : Nat) : Int) == (i : Int)) = true := by rw [hnm]; simp
                  have HNM := Lib.hid hnm; clear hnm
                  go_wp2_with fail
                  refine d_region (by kernel_rfl) (by kernel_rfl) ?_
                  repeat
                    first
                      | (refine d_plain (by with_reducible rfl) ?_; apply Exists.intro; refine ⟨fun wq hc hq => ?_, ?_⟩)
                      | (refine d_on (by with_reducible rfl) (by rfl) (by with_reducible rfl) ?_; apply Exists.intro; refine ⟨fun wq hc hq => ?_, ?_⟩)
                      | (refine d_off (by with_reducible rfl) (by rfl) (by rfl) ?_)
                      | (refine d_void (by with_reducible rfl) (by rfl) ?_)
                    try any_goals
                      (skip; clear hc
                       go_simp
                       first
                         | rfl)
                    simp only [Act.put, List.setIfInBounds_toArray, List.set_cons_zero, List.set_cons_succ]
                  refine d_nil ?_
                  intro w4 hb4
                  have HI2 : Hid (inn n X Y i (m + 1) = true) := Lib.hid (by show (inn n X Y i m && _) = true; rw [HI.out, Bool.true_and]; rw [decide_eq_true HNM.out, Bool.or_true]; rfl)
                  go_wp2_with fail
                  go_roundw
                  case rel => first | exact ⟨m + 1, by omega, by omega, HI2.out, by go_num, b_next hbm hb4⟩ | ((repeat apply Exists.intro); exact ⟨⟨m + 1, by omega, by omega, HI2.out, by go_num, b_next hbm hb4⟩, rfl⟩)
                  case measure => simp [intOf]; omega
                · have dq : (((nx n m : Nat) : Int) != (i : Int)) = true := by simp; omega
                  have dq2 : (((nx n m : Nat) : Int) == (i : Int)) = false := by simp; omega
                  have HNM := Lib.hid hnm; clear hnm
                  cases hcm : commonB (X i) (Y i) (X (nx n i)) (Y (nx n i)) (X m) (Y m) (X (nx n m)) (Y (nx n m)) with
                  | true =>
                    rw [hcm] at CC
                    have HF : Hid (pck n X Y = 3) := Lib.hid (by
                      have hi1 : inn n X Y i (m + 1) = false := by
                        show (inn n X Y i m && (decide (m < i + 2) || decide (nx n m = i) || !commonB (X i) (Y i) (X (nx n i)) (Y (nx n i)) (X m) (Y m) (X (nx n m)) (Y (nx n m)))) = false
                        rw [hcm, decide_eq_false (show ¬ m < i + 2 by omega), decide_eq_false HNM.out, HI.out]; rfl
                      have hr : row n X Y i = false := by unfold row; rw [inn_stop hi1 n hltm, Bool.and_false]
                      unfold pck; rw [if_neg (by omega), if_neg (by omega), if_neg (by rw [HCK.out]; simp), if_pos (Or.inl (rows_stop hr n hlti))])
                    clear hcm
                    go_wp2_with fail
                    refine d_region (by kernel_rfl) (by kernel_rfl) ?_
                    repeat
                      first
                        | (refine d_plain (by with_reducible rfl) ?_; apply Exists.intro; refine ⟨fun wq hc hq => ?_, ?_⟩)
                        | (refine d_on (by with_reducible rfl) (by rfl) (by with_reducible rfl) ?_; apply Exists.intro; refine ⟨fun wq hc hq => ?_, ?_⟩)
                        | (refine d_off (by with_reducible rfl) (by rfl) (by rfl) ?_)
                        | (refine d_void (by with_reducible rfl) (by rfl) ?_)
                      try any_goals
                        (have q0 := keep hq c0; have q1 := keep hq c1; have q2 := keep hq e0; have q3 := keep hq e1; clear hc
                         go_simp
                         first
                           | rfl
                           | (go_at_call 144; with_reducible exact call_below hq (NI.out _ (cls hq)))
                           | (go_at_call 144; with_reducible exact call_below hq (NM.out _ (cls hq)))
                           | (go_at_call 145; with_reducible exact call_below hq (CC.out _)))
                      simp only [Act.put, List.setIfInBounds_toArray, List.set_cons_zero, List.set_cons_succ]
                    refine d_nil ?_
                    intro w4 hb4
                    go_wp2_with fail
                    go_ret
                    exact ⟨ret1 HF.out.symm, b_next hbm hb4⟩
                  | false =>
                    rw [hcm] at CC
                    have HCM := Lib.hid hcm; clear hcm
                    go_wp2_with fail
                    refine d_region (by kernel_rfl) (by kernel_rfl) ?_
                    repeat
                      first
                        | (refine d_plain (by with_reducible rfl) ?_; apply Exists.intro; refine ⟨fun wq hc hq => ?_, ?_⟩)
                        | (refine d_on (by with_reducible rfl) (by rfl) (by with_reducible rfl) ?_; apply Exists.intro; refine ⟨fun wq hc hq => ?_, ?_⟩)
                        | (refine d_off (by with_reducible rfl) (by rfl) (by rfl) ?_)
                        | (refine d_void (by with_reducible rfl) (by rfl) ?_)
                      try any_goals
                        (have q0 := keep hq c0; have q1 := keep hq c1; have q2 := keep hq e0; have q3 := keep hq e1; clear hc
                         go_simp
                         first
                           | rfl
                           | (go_at_call 144; with_reducible exact call_below hq (NI.out _ (cls hq)))
                           | (go_at_call 144; with_reducible exact call_below hq (NM.out _ (cls hq)))
                           | (go_at_call 145; with_reducible exact call_below hq (CC.out _)))
                      simp only [Act.put, List.setIfInBounds_toArray, List.set_cons_zero, List.set_cons_succ]
                    refine d_nil ?_
                    intro w4 hb4
                    have HI2 : Hid (inn n X Y i (m + 1) = true) := Lib.hid (by show (inn n X Y i m && _) = true; rw [HI.out, Bool.true_and]; rw [HCM.out, Bool.not_false, Bool.or_true])
                    go_wp2_with fail
                    go_roundw
                    case rel => first | exact ⟨m + 1, by omega, by omega, HI2.out, by go_num, b_next hbm hb4⟩ | ((repeat apply Exists.intro); exact ⟨⟨m + 1, by omega, by omega, HI2.out, by go_num, b_next hbm hb4⟩, rfl⟩)
                    case measure => simp [intOf]; omega
              · have HIN : Hid (rows n X Y (i + 1) = true) := Lib.hid (by
                  have hin2 : inn n X Y i n = true := by
                    rcases hm2 with h | h
                    · have e : m = n := by omega
                      have := HI.out; rw [e] at this; exact this
                    · exact inn_low n (by omega)
                  show (rows n X Y i && row n X Y i) = true
                  unfold row
                  rw [HR.out, ← EJ.out, HSS.out, decide_eq_false HS0.out, hin2]; rfl)
                have hltm2 : ¬ (m : Int) < (n : Int) := by omega
                go_wp2_with fail
                go_roundw
                case rel => first | exact ⟨i + 1, by omega, HIN.out, by go_num, hbm⟩ | ((repeat apply Exists.intro); exact ⟨⟨i + 1, by omega, HIN.out, by go_num, hbm⟩, rfl⟩)
                case measure => simp [intOf]; omega
        · have he : i = n := by omega
          have HE2 := Lib.hid he; clear he
          have hltm2 : ¬ (i : Int) < (n : Int) := by omega
          go_wp2_with fail
          refine (HT.out HG.out _ hbi).mono ?_; rintro e w6 ⟨rfl, h⟩
          have hb6 := b_next hbi h; clear h
          by_cases ha : asum n X Y n ≤ 0
          · have HF : Hid (pck n X Y = 3) := Lib.hid (by unfold pck; rw [if_neg (by omega), if_neg (by omega), if_neg (by rw [HCK.out]; simp), if_pos (Or.inr ha)])
            go_wp2_with fail
            go_ret
            exact ⟨ret1 HF.out.symm, hb6⟩
          · have HF : Hid (pck n X Y = 0) := Lib.hid (by
              have hr := HR.out
              rw [HE2.out] at hr
              unfold pck; rw [if_neg (by omega), if_neg (by omega), if_neg (by rw [HCK.out]; simp), if_neg (by rw [hr]; simp; omega)])
            go_wp2_with fail
            go_ret
            exact ⟨ret1 HF.out.symm, hb6⟩
end Poly
end Go.Proofs.YteieagihdflapaaGreatDoor
namespace Go.Proofs.YteieagihdflapaaGreatDoor
open Go.RowKit Go.Lib
namespace Num
theorem retu2 {a b c d : Int} (h1 : a = c) (h2 : b = d) : Ending.returned (.tuple #[.int .u64 a, .int .u64 b]) = .returned (.tuple #[.int .u64 c, .int .u64 d]) := by rw [h1, h2]
set_option maxHeartbeats 1000000 in
theorem mul64 (x y : Nat) (hx : x < 18446744073709551616) (hy : y < 18446744073709551616) (w : World) :
    Calls Tryz.prog 233 #[.int .u64 x, .int .u64 y] w fun e w' => e = .returned (.tuple #[.int .u64 ((x * y / 18446744073709551616 : Nat) : Int), .int .u64 ((x * y % 18446744073709551616 : Nat) : Int)]) ∧ w = w' := by
  obtain ⟨bd, bt, bw, hhi⟩ := Lib.mul64_hi x y hx hy
  have ba := Lib.half_mul_le (a := x / 4294967296) (b := y / 4294967296) (by omega) (by omega)
  have bb := Lib.half_mul_le (a := x / 4294967296) (b := y % 4294967296) (by omega) (by omega)
  have bc := Lib.half_mul_le (a := x % 4294967296) (b := y / 4294967296) (by omega) (by omega)
  have ba' : x / 4294967296 * (y / 4294967296) < 18446744073709551616 := by omega
  have bb' : x / 4294967296 * (y % 4294967296) < 18446744073709551616 := by omega
  have bc' : x % 4294967296 * (y / 4294967296) < 18446744073709551616 := by omega
  have bh1 : x / 4294967296 * (y / 4294967296) + (x / 4294967296 * (y % 4294967296) + x % 4294967296 * (y % 4294967296) / 4294967296) / 4294967296 < 18446744073709551616 := by omega
  have bh : x / 4294967296 * (y / 4294967296) + (x / 4294967296 * (y % 4294967296) + x % 4294967296 * (y % 4294967296) / 4294967296) / 4294967296 + ((x / 4294967296 * (y % 4294967296) + x % 4294967296 * (y % 4294967296) / 4294967296) % 4294967296 + x % 4294967296 * (y / 4294967296)) / 4294967296 < 18446744073709551616 := by omega
  go_enter Tryz.func233, Tryz.ntmps233
  go_wp2
  simp only [Mul64.maskN x hx, Mul64.maskN y hy, Mul64.divN, Mul64.mulN, Mul64.addN, Mul64.wrapN _ bd, Mul64.wrapN _ bb', Mul64.wrapN _ bt, Mul64.maskN _ bt, Mul64.wrapN _ bc', Mul64.wrapN _ bw, Mul64.wrapN _ ba', Mul64.wrapN _ bh1, Mul64.wrapN _ bh, Mul64.wrapM (x * y)]
  rw [hhi]
  go_ret2
  exact ⟨rfl, rfl⟩
end Num
end Go.Proofs.YteieagihdflapaaGreatDoor
