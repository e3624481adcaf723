/- Joined texts: ChN, RtL, PlanC, Kind, Profile, Wind. -/
import Derived.Test.YtkapllakofndlaaDoorM06
import Derived.Test.YtkapllakofndlaaDoorM05
import Derived.Test.YtkapllakofndlaaDoorM01
namespace Go.Proofs.YtkapllakofndlaaDoor
open Go.RowKit
namespace Chart
open Kit Plane Poly
theorem bl_irr : ∀ x : List UInt8, Op.bytesLess x x = false
  | [] => rfl
  | a :: x => by
    show (decide (a < a) || (a == a && Op.bytesLess x x)) = false
    rw [bl_irr x]; simp
theorem bl_trans : ∀ {x y z : List UInt8}, Op.bytesLess x y = true → Op.bytesLess y z = true → Op.bytesLess x z = true
  | _, [], z, h, _ => by unfold Op.bytesLess at h; cases h
  | _, b :: y, [], _, h => by unfold Op.bytesLess at h; cases h
  | [], b :: y, c :: z, _, _ => rfl
  | a :: x, b :: y, c :: z, h1, h2 => by
    have h1 : (decide (a < b) || (a == b && Op.bytesLess x y)) = true := h1
    have h2 : (decide (b < c) || (b == c && Op.bytesLess y z)) = true := h2
    show (decide (a < c) || (a == c && Op.bytesLess x z)) = true
    rw [Bool.or_eq_true, Bool.and_eq_true, decide_eq_true_eq, beq_iff_eq] at h1 h2 ⊢
    rcases h1 with h3 | ⟨h3, h4⟩
    · rcases h2 with h5 | ⟨h5, h6⟩
      · exact Or.inl (UInt8.lt_trans h3 h5)
      · exact Or.inl (h5 ▸ h3)
    · rcases h2 with h5 | ⟨h5, h6⟩
      · exact Or.inl (h3 ▸ h5)
      · exact Or.inr ⟨h3.trans h5, bl_trans h4 h6⟩
/-- Fix i is nearer than fix j, or as near and ahead of it by name. -/
def clo (d : Nat → Int) (N : Nat → ByteArray) (i j : Nat) : Bool := decide (d i < d j) || (decide (d i = d j) && Op.bytesLess (N i).toList (N j).toList)
theorem clo_irr {d : Nat → Int} {N : Nat → ByteArray} (i : Nat) : clo d N i i = false := by
  unfold clo
  rw [bl_irr, decide_eq_false (by omega), Bool.and_false]; rfl
theorem clo_trans {d : Nat → Int} {N : Nat → ByteArray} {i j k : Nat} (h1 : clo d N i j = true) (h2 : clo d N j k = true) : clo d N i k = true := by
  unfold clo at *
  rw [Bool.or_eq_true, Bool.and_eq_true, decide_eq_true_eq, decide_eq_true_eq] at *
  rcases h1 with h1 | ⟨h1, h3⟩ <;> rcases h2 with h2 | ⟨h2, h4⟩
  · exact Or.inl (by omega)
  · exact Or.inl (by omega)
  · exact Or.inl (by omega)
  · exact Or.inr ⟨by omega, bl_trans h3 h4⟩
/-- The best of the first k fixes. -/
def bst (d : Nat → Int) (N : Nat → ByteArray) : Nat → Nat
  | 0 => 0
  | k + 1 => if clo d N k (bst d N k) = true then k else bst d N k
theorem bst_lt {d : Nat → Int} {N : Nat → ByteArray} {n : Nat} (h0 : 0 < n) : ∀ k, k ≤ n → bst d N k < n
  | 0, _ => h0
  | k + 1, hk => by
    have := bst_lt (d := d) (N := N) h0 k (by omega)
    show (if clo d N k (bst d N k) = true then k else bst d N k) < n
    split <;> omega
theorem bst_best {d : Nat → Int} {N : Nat → ByteArray} : ∀ k j, j < k → clo d N j (bst d N k) = false
  | 0, j, hj => by omega
  | k + 1, j, hj => by
    show clo d N j (if clo d N k (bst d N k) = true then k else bst d N k) = false
    by_cases hc : clo d N k (bst d N k) = true
    · rw [if_pos hc]
      rcases Nat.lt_or_ge j k with hl | hl
      · cases h : clo d N j k with
        | false => rfl
        | true => have := clo_trans h hc; rw [bst_best k j hl] at this; cases this
      · rw [show j = k from by omega]; exact clo_irr k
    · rw [if_neg hc]
      rcases Nat.lt_or_ge j k with hl | hl
      · exact bst_best k j hl
      · rw [show j = k from by omega]; simpa using hc
theorem s3_set {w : World} {b : Nat} {s : ByteArray} {x y : Int} (h : S3 w b s x y) (s' : ByteArray) (x' y' : Int) : S3 (((w.setCell ⟨b, 0, none⟩ (.string s')).setCell ⟨b, 1, none⟩ (.int .i64 x')).setCell ⟨b, 2, none⟩ (.int .i64 y')) b s' x' y' := by
  have n01 : (⟨b, 0, none⟩ : Addr) ≠ ⟨b, 1, none⟩ := fun h => by injection h with _ h; omega
  have n02 : (⟨b, 0, none⟩ : Addr) ≠ ⟨b, 2, none⟩ := fun h => by injection h with _ h; omega
  have n12 : (⟨b, 1, none⟩ : Addr) ≠ ⟨b, 2, none⟩ := fun h => by injection h with _ h; omega
  exact ⟨cfar _ n02.symm (cfar _ n01.symm (cset _ h.c0)), cfar _ n12.symm (cset _ (cfar _ n01 h.c1)), cset _ (cfar _ n12 (cfar _ n02 h.c2))⟩
theorem fz3 (w : World) (a b c : Addr) (u v x : Value) (p : Addr) : (((w.setCell a u).setCell b v).setCell c x).frozen? p = w.frozen? p := by
  rw [World.frozen?_setCell, World.frozen?_setCell, World.frozen?_setCell]
theorem p2_after (w : World) (o : Obj) (t : TypeId) (x y : Int) : P2 ((w.alloc o).alloc (.cells #[.int .i64 x, .int .i64 y] t)) (w.heap.size + 1) x y := by
  have h := p2_new (w.alloc o) t x y
  rw [World.size_alloc] at h; exact h
/-- chart.Near's answer. -/
def nearR (E : Int) (n : Nat) (N : Nat → ByteArray) (X Y : Nat → Int) (qx qy : Int) : ByteArray × Int :=
  if E ≠ 0 then (⟨#[]⟩, E) else if goodB qx qy = false then (⟨#[]⟩, 4) else if n = 0 then (⟨#[]⟩, 8) else (N (bst (fun k => sqr qx qy (X k) (Y k)) N n), 0)
set_option maxHeartbeats 2000000 in
theorem find_ok (b off n c i : Nat) (aw : Value) (N : Nat → ByteArray) (X Y : Nat → Int) (s : ByteArray) (w : World) (hi : i < n) (_hc : n ≤ c) (_hm : c ≤ 9223372036854775807) (C : Hid (CcC (.agg #[.slice (some ⟨b, off, none⟩) n c, aw]) 0 w)) (HF : Hid (∀ k, k < n → E3 w b off k (N k) (X k) (Y k))) (IX : Hid (∀ w1, Below w.heap.size w w1 → Calls Tryd.prog 80 #[.agg #[.slice (some ⟨b, off, none⟩) n c, aw], .string s] w1 fun e w' => e = .returned (.int .i64 i) ∧ Below w1.heap.size w1 w')) :
    Calls Tryd.prog 57 #[.agg #[.slice (some ⟨b, off, none⟩) n c, aw], .string s] w fun e w' => e = .returned (.tuple #[.agg #[.string (N i), .int .i64 (X i), .int .i64 (Y i)], .int .i64 0]) ∧ Below w.heap.size w w' := by
  have W0 := Lib.hid (b_alloc (b_alloc (Below.refl w.heap.size w) (.cells #[.slice (some ⟨b, off, none⟩) n c, aw] 54)) (.cells #[.string ⟨#[]⟩, .int .i64 0, .int .i64 0] 67))
  have B0 := Lib.hid (p2v_keep (b_alloc (Below.refl _ _) (.cells #[.string ⟨#[]⟩, .int .i64 0, .int .i64 0] 67)) (p2v_new w 54 (.slice (some ⟨b, off, none⟩) n c) aw))
  have s0 := s3_new (w.alloc (.cells #[.slice (some ⟨b, off, none⟩) n c, aw] 54)) 67 ⟨#[]⟩ 0 0
  rw [World.size_alloc] at s0
  have S0 := Lib.hid s0; clear s0
  have Z0 : Hid (∀ k, ((w.alloc (.cells #[.slice (some ⟨b, off, none⟩) n c, aw] 54)).alloc (.cells #[.string ⟨#[]⟩, .int .i64 0, .int .i64 0] 67)).frozen? ⟨w.heap.size + 1, k, none⟩ = false) := Lib.hid fun k => by
    have : w.heap.size + 1 = (w.alloc (.cells #[.slice (some ⟨b, off, none⟩) n c, aw] 54)).heap.size := by simp
    rw [this]; simp
  have L0 : Hid (w.heap.size + 1 < ((w.alloc (.cells #[.slice (some ⟨b, off, none⟩) n c, aw] 54)).alloc (.cells #[.string ⟨#[]⟩, .int .i64 0, .int .i64 0] 67)).heap.size) := Lib.hid (by simp)
  have hl : (i : Int) < (n : Int) := by omega
  go_enter Tryd.func57, Tryd.ntmps57
  go_wp2_with fail
  (with_reducible refine (C.out _ W0.out).mono ?_); rintro e w1 ⟨rfl, hb⟩
  have W1 := Lib.hid (b_next W0.out hb); have B1 := Lib.hid (p2v_keep hb B0.out); have S1 := Lib.hid (s3_keep hb S0.out)
  have Z1 : Hid (∀ k, w1.frozen? ⟨w.heap.size + 1, k, none⟩ = false) := Lib.hid fun k => (hb.frozen (p := ⟨w.heap.size + 1, k, none⟩) L0.out).trans (Z0.out k)
  have L1 : Hid (w.heap.size + 1 < w1.heap.size) := Lib.hid (Nat.lt_of_lt_of_le L0.out hb.size)
  clear hb
  obtain ⟨x0, x1⟩ := B1.out
  go_wp2_with fail
  (with_reducible refine (IX.out _ W1.out).mono ?_); rintro e w2 ⟨rfl, hb⟩
  have W2 := Lib.hid (b_next W1.out hb); clear x0 x1
  obtain ⟨x0, x1⟩ := p2v_keep hb B1.out
  obtain ⟨y0, y1, y2⟩ := s3_keep hb S1.out
  have z := fun k => (hb.frozen (p := ⟨w.heap.size + 1, k, none⟩) L1.out).trans (Z1.out k)
  have z0 := z 0; have z1 := z 1; have z2 := z 2
  obtain ⟨f0, f1, f2⟩ := e3_keep W2.out (HF.out i hi)
  clear hb z
  go_wp2_with fail
  have S3' := s3_set ⟨y0, y1, y2⟩ (N i) (X i) (Y i)
  refine bodyPost_ret (v := .tuple #[.agg #[.string (N i), .int .i64 (X i), .int .i64 (Y i)], .int .i64 0]) (by simp [results, Tryd.results57, go_sem, S3'.c0, S3'.c1, S3'.c2]) rfl ⟨rfl, b_set (b_set (b_set W2.out (Nat.le_succ _) _) (Nat.le_succ _) _) (Nat.le_succ _) _⟩
end Chart
end Go.Proofs.YtkapllakofndlaaDoor
namespace Go.Proofs.YtkapllakofndlaaDoor
open Go.RowKit
namespace Route
open Kit Plane Chart
/-- What is wrong with fix k alone. -/
def ger (X Y : Nat → Int) (k : Nat) : Int := if goodB (X k) (Y k) = false then 4 else 0
/-- route.check's error. -/
def rck (n : Nat) (X Y : Nat → Int) : Int := if 64 < n then 2 else ferr (ger X Y) n
/-- The step to fix j. -/
def rstp (X Y : Nat → Int) (j : Nat) : Int := dup (sqr (X (j - 1)) (Y (j - 1)) (X j) (Y j))
theorem rck_ok {n : Nat} {X Y : Nat → Int} (h : rck n X Y = 0) : n ≤ 64 ∧ ∀ k, k < n → good (X k) (Y k) := by
  unfold rck at h
  split at h
  · cases h
  · refine ⟨by omega, fun k hk => ?_⟩
    have := ferr_inv h k hk
    unfold ger at this
    cases hg : goodB (X k) (Y k) with
    | false => rw [hg] at this; cases this
    | true => exact goodB_iff.1 hg
theorem rck_of {n : Nat} {X Y : Nat → Int} (h : n ≤ 64) (hg : ∀ k, k < n → good (X k) (Y k)) : rck n X Y = 0 := by
  unfold rck
  rw [if_neg (by omega)]
  exact ferr_zero fun k hk => by unfold ger; rw [goodB_iff.2 (hg k hk)]; rfl
set_option maxRecDepth 100000 in
set_option maxHeartbeats 4000000 in
theorem rcheck_w (A : Option Addr) (n c : Nat) (N : Nat → ByteArray) (X Y : Nat → Int) (w : World) (HV : Hid (FV w (.slice A n c) n N X Y)) :
    Calls Tryd.prog 76 #[.slice A n c] w fun e w' => e = .returned (.int .i64 (rck n X Y)) ∧ Below w.heap.size w w' := by
  by_cases h64 : 64 < n
  · have e : rck n X Y = 2 := by unfold rck; rw [if_pos h64]
    rw [e]
    have hI : (64 : Int) < (n : Int) := by omega
    clear e
    go_enter Tryd.func76, Tryd.ntmps76
    go_wp2_with fail
    all_goals first | (exfalso; omega) | (go_ret; exact ⟨rfl, Below.refl _ _⟩)
  · have hI : ¬ (64 : Int) < (n : Int) := by omega
    obtain ⟨R, hR⟩ : ∃ R, R = rck n X Y := ⟨_, rfl⟩
    rw [← hR]
    unfold rck at hR
    rw [if_neg h64] at hR
    have HR := Lib.hid hR; clear hR
    go_enter Tryd.func76, Tryd.ntmps76
    go_wp2_with fail
    all_goals try (exfalso; omega)
    go_loopw [11] (fun s wr => ∃ k : Nat, k ≤ n ∧ s = .int .i64 k ∧ (∀ j, j < k → ger X Y j = 0) ∧ Below w.heap.size w wr) (fun s _ => n - (intOf s).toNat)
    case atStart => exact ⟨0, Nat.zero_le _, rfl, fun j hj => absurd hj (Nat.not_lt_zero j), Below.refl _ _⟩
    case round =>
      obtain ⟨k, hk, rfl, hno, hbl⟩ := hrel
      have HN := Lib.hid hno; have WR := Lib.hid hbl; clear hno
      by_cases hlt : k < n
      · have hl : (k : Int) < (n : Int) := by omega
        obtain ⟨b, off, c', e, hc1, hc2, h3⟩ := fv_at (fv_keep hbl HV.out) (by omega)
        injection e with e1 _ e3
        subst e1 e3
        have hc3 : c ≤ 9223372036854775807 := Nat.le_trans hc2 (by decide)
        obtain ⟨f0, f1, f2⟩ := h3 k hlt
        have K := Lib.hid (chkF (X k) (Y k))
        have STOP : Hid (ger X Y k ≠ 0 → R = ger X Y k) := Lib.hid fun h => by rw [HR.out]; exact ferr_at HN.out h hlt
        have GO : Hid (ger X Y k = 0 → ∀ j, j < k + 1 → ger X Y j = 0) := Lib.hid fun h j hj => by
          rcases Nat.lt_or_ge j k with hl | hl
          · exact HN.out j hl
          · rw [show j = k from by omega]; exact h
        have HG : Hid (ger X Y k = if goodB (X k) (Y k) = false then 4 else 0) := Lib.hid rfl
        have WA := Lib.hid (b_alloc WR.out (.cells #[.string (N k), .int .i64 (X k), .int .i64 (Y k)] 67))
        clear hbl h3
        generalize X k = x at *
        generalize Y k = y at *
        cases hg : goodB x y with
        | false =>
          rw [hg] at HG K
          have e := STOP.out (by rw [HG.out]; decide)
          rw [HG.out, if_pos rfl] at e
          rw [if_pos rfl] at K
          have HE := Lib.hid e; clear e STOP GO hg
          go_wp2_with fail
          (with_reducible refine (K.out _).mono ?_); rintro e w1 ⟨rfl, hb⟩
          have W1 := Lib.hid (b_next WA.out hb); clear hb
          go_wp2_with fail
          go_ret
          exact ⟨by rw [HE.out]; rfl, W1.out⟩
        | true =>
          rw [hg] at HG K
          have e := GO.out (by rw [HG.out]; decide)
          rw [if_neg (by decide)] at K
          have HN' := Lib.hid e; clear e STOP GO hg
          go_wp2_with fail
          (with_reducible refine (K.out _).mono ?_); rintro e w1 ⟨rfl, hb⟩
          have W1 := Lib.hid (b_next WA.out hb); clear hb
          go_wp2_with fail
          go_roundw
          case rel => exact ⟨k + 1, by omega, by go_num, HN'.out, W1.out⟩
          case measure => simp [intOf]; omega
      · have hkn : k = n := by omega
        have e : R = 0 := by rw [HR.out]; exact ferr_zero fun j hj => HN.out j (by omega)
        have HE := Lib.hid e; clear e HN hbl
        go_wp2_with fail
        go_ret
        exact ⟨by rw [HE.out]; rfl, WR.out⟩
theorem rcheckC {v : Value} {n : Nat} {N : Nat → ByteArray} {X Y : Nat → Int} {w : World} (hv : FV w v n N X Y) : ∀ w1, Below w.heap.size w w1 →
    Calls Tryd.prog 76 #[v] w1 fun e w' => e = .returned (.int .i64 (rck n X Y)) ∧ Below w1.heap.size w1 w' := fun w1 hb => by
  obtain ⟨A, c, rfl⟩ := fv_slice hv
  exact rcheck_w A n c N X Y w1 (Lib.hid (fv_keep hb hv))
set_option maxRecDepth 100000 in
set_option maxHeartbeats 1000000 in
theorem rlen_bad (A : Option Addr) (n c : Nat) (E : Int) (w : World) (_hE1 : (E == 0) = false) (hE2 : (E != 0) = true) (C : Hid (∀ w1, Below w.heap.size w w1 → Calls Tryd.prog 76 #[.slice A n c] w1 fun e w' => e = .returned (.int .i64 E) ∧ Below w1.heap.size w1 w')) :
    Calls Tryd.prog 50 #[.slice A n c] w fun e w' => e = .returned (.tuple #[.int .i64 0, .int .i64 E]) ∧ Below w.heap.size w w' := by
  go_enter Tryd.func50, Tryd.ntmps50
  go_wp2_with fail
  (with_reducible refine (C.out _ (Below.refl _ _)).mono ?_); rintro e w1 ⟨rfl, hb⟩
  have W1 := Lib.hid hb; clear hb
  go_wp2_with fail
  go_ret2
  exact ⟨rfl, W1.out⟩
theorem rstp_bd {n : Nat} {X Y : Nat → Int} (hg : ∀ k, k < n → good (X k) (Y k)) {j : Nat} (hj : j < n) : 0 ≤ rstp X Y j ∧ rstp X Y j ≤ 3037000500 := by
  have g1 := hg (j - 1) (by omega)
  have g2 := hg j hj
  have h0 := sqr_nonneg (X (j - 1)) (Y (j - 1)) (X j) (Y j)
  have h1 := (dup_le h0 (sqr_near g1 g2)).1
  have h2 := (dup_spec h0).1
  unfold rstp
  omega
/-- The sum of the first steps. -/
theorem lsum_congr {D E : Nat → Int} : ∀ {k : Nat}, (∀ j, j < k → D j = E j) → lsum D k = lsum E k
  | 0, _ => rfl
  | k + 1, h => by
    show (if k = 0 then 0 else lsum D k + D k) = (if k = 0 then 0 else lsum E k + E k)
    rw [lsum_congr fun j hj => h j (by omega), h k (by omega)]
theorem lsum_bd' {n : Nat} {D : Nat → Int} (h : ∀ k, k < n → 0 ≤ D k ∧ D k ≤ 3037000500) : ∀ k, k ≤ n → 0 ≤ lsum D k ∧ lsum D k ≤ 3037000500 * k
  | 0, _ => by show (0 : Int) ≤ 0 ∧ (0 : Int) ≤ 3037000500 * 0; omega
  | k + 1, hk => by
    have h1 := lsum_bd' h k (by omega)
    have h2 := h k (by omega)
    show 0 ≤ (if k = 0 then 0 else lsum D k + D k) ∧ (if k = 0 then 0 else lsum D k + D k) ≤ _
    split <;> omega
set_option maxRecDepth 100000 in
set_option maxHeartbeats 4000000 in
theorem rlen_w (A : Option Addr) (n c : Nat) (N : Nat → ByteArray) (X Y : Nat → Int) (w : World) (hn : n ≤ 64) (HG : Hid (∀ k, k < n → good (X k) (Y k))) (HV : Hid (FV w (.slice A n c) n N X Y)) (C : Hid (∀ w1, Below w.heap.size w w1 → Calls Tryd.prog 76 #[.slice A n c] w1 fun e w' => e = .returned (.int .i64 0) ∧ Below w1.heap.size w1 w')) :
    Calls Tryd.prog 50 #[.slice A n c] w fun e w' => e = .returned (.tuple #[.int .i64 (lsum (rstp X Y) n), .int .i64 0]) ∧ Below w.heap.size w w' := by
  have HB := Lib.hid (lsum_bd' (n := n) (D := rstp X Y) (fun k hk => rstp_bd HG.out hk))
  go_enter Tryd.func50, Tryd.ntmps50
  go_wp2_with fail
  (with_reducible refine (C.out _ (Below.refl _ _)).mono ?_); rintro e w1 ⟨rfl, hb⟩
  have W1 := Lib.hid hb; clear hb
  go_wp2_with fail
  go_loopw [5, 6] (fun t s wr => ∃ k : Nat, 1 ≤ k ∧ (k ≤ n ∨ k = 1) ∧ s = .int .i64 k ∧ t = .int .i64 (lsum (rstp X Y) k) ∧ Below w1.heap.size w1 wr) (fun _ s _ => n - (intOf s).toNat)
  case atStart => exact ⟨1, Nat.le_refl _, Or.inr rfl, rfl, rfl, Below.refl _ _⟩
  case round =>
    obtain ⟨k, hk1, hk, rfl, rfl, hbl⟩ := hrel
    have WR := Lib.hid hbl
    by_cases hlt : k < n
    · have hl : (k : Int) < (n : Int) := by omega
      obtain ⟨b, off, c', e, hc1, hc2, h3⟩ := fv_at (fv_keep (b_next W1.out hbl) HV.out) (by omega)
      injection e with e1 _ e3
      subst e1 e3
      have hc3 : c ≤ 9223372036854775807 := Nat.le_trans hc2 (by decide)
      obtain ⟨P, hP⟩ : ∃ P, P = k - 1 := ⟨_, rfl⟩
      obtain ⟨-, f1, f2⟩ := h3 k hlt
      obtain ⟨-, g1, g2⟩ := h3 P (by omega)
      have C1 := Lib.hid (And.intro f1 f2); have C0 := Lib.hid (And.intro g1 g2)
      have gk := HG.out k hlt; have gp := HG.out P (by omega)
      have DS := Lib.hid (fun w' => distance (X P) (Y P) (X k) (Y k) w' rfl (by unfold good at *; omega))
      have est : rstp X Y k = dup (sqr (X P) (Y P) (X k) (Y k)) := by unfold rstp; rw [hP]
      have els : lsum (rstp X Y) (k + 1) = lsum (rstp X Y) k + rstp X Y k := by show (if k = 0 then 0 else lsum (rstp X Y) k + rstp X Y k) = _; rw [if_neg (by omega)]
      have bd := HB.out k (by omega)
      have bd2 := rstp_bd HG.out hlt
      rw [← est] at DS
      have HLS := Lib.hid els
      clear hbl h3 f1 f2 g1 g2 est els gk gp
      have u1 : IntKind.i64.wrap ((k : Int) - 1) = (P : Int) := by rw [IntWalk.i64_in _ (by omega)]; omega
      have bP : (P : Int) < (n : Int) := by omega
      clear hP
      generalize lsum (rstp X Y) k = L at *
      generalize rstp X Y k = st at *
      generalize root (sqr (X P) (Y P) (X k) (Y k)) = ro at *
      generalize X k = xk at *
      generalize Y k = yk at *
      generalize X P = xp at *
      generalize Y P = yp at *
      go_wp2_with fail
      refine d_region (by kernel_rfl) (by kernel_rfl) ?_
      repeat
        first
          | (refine d_plain (by with_reducible rfl) ?_; apply Exists.intro; refine ⟨fun wq hc hq => ?_, ?_⟩)
          | (refine d_on (by with_reducible rfl) (by rfl) (by with_reducible rfl) ?_; apply Exists.intro; refine ⟨fun wq hc hq => ?_, ?_⟩)
          | (refine d_off (by with_reducible rfl) (by rfl) (by rfl) ?_)
          | (refine d_void (by with_reducible rfl) (by rfl) ?_)
        try any_goals
          (have q0 := keep (cls hq) C0.out.1; have q1 := keep (cls hq) C0.out.2; have q2 := keep (cls hq) C1.out.1; have q3 := keep (cls hq) C1.out.2; clear hc
           go_simp
           first
             | rfl
             | (go_at_call 20; with_reducible exact call_below hq (DS.out _)))
        simp only [Act.put, List.setIfInBounds_toArray, List.set_cons_zero, List.set_cons_succ]
      refine d_nil ?_
      intro w4 hb4
      clear u1
      have W4 := Lib.hid (b_next WR.out hb4); clear hb4
      go_wp2_with fail
      go_roundw
      case rel => exact ⟨k + 1, by omega, by omega, by go_num, by rw [HLS.out], W4.out⟩
      case measure => simp [intOf]; omega
    · have hl : ¬ (k : Int) < (n : Int) := by omega
      have e : lsum (rstp X Y) k = lsum (rstp X Y) n := by
        rcases hk with h | h
        · rw [show k = n by omega]
        · subst h
          rcases (show n = 0 ∨ n = 1 by omega) with rfl | rfl <;> rfl
      have HE := Lib.hid e; clear e hbl
      go_wp2_with fail
      go_ret2
      exact ⟨by rw [← HE.out]; rfl, b_next W1.out WR.out⟩
/-- route.Length's answer. -/
def rlen (n : Nat) (X Y : Nat → Int) : Int × Int := if rck n X Y ≠ 0 then (0, rck n X Y) else (lsum (rstp X Y) n, 0)
theorem rlenC {v : Value} {n : Nat} {N : Nat → ByteArray} {X Y : Nat → Int} {w : World} (hv : FV w v n N X Y) : ∀ w1, Below w.heap.size w w1 →
    Calls Tryd.prog 50 #[v] w1 fun e w' => e = .returned (.tuple #[.int .i64 (rlen n X Y).1, .int .i64 (rlen n X Y).2]) ∧ Below w1.heap.size w1 w' := fun w1 hb => by
  have C := rcheckC (fv_keep hb hv)
  have hv1 := fv_keep hb hv
  obtain ⟨A, c, rfl⟩ := fv_slice hv
  unfold rlen
  by_cases hz : rck n X Y ≠ 0
  · rw [if_pos hz]
    exact rlen_bad A n c _ w1 (by simpa using hz) (by simpa using hz) (Lib.hid C)
  · rw [if_neg hz]
    have h0 := Classical.not_not.1 hz
    rw [h0] at C
    obtain ⟨g1, g2⟩ := rck_ok h0
    exact rlen_w A n c N X Y w1 g1 (Lib.hid g2) (Lib.hid hv1) (Lib.hid C)
end Route
end Go.Proofs.YtkapllakofndlaaDoor
namespace Go.Proofs.YtkapllakofndlaaDoor
open Go.RowKit
namespace Plan
open Kit Chart Name
theorem bad1 (s : ByteArray) (w : World) : Calls Tryd.prog 79 #[.string s] w fun e w' => e = .returned (.bool (!nameB s)) ∧ Below w.heap.size w w' := by
  have C := Lib.hid (nameC s w)
  generalize nameB s = b at *
  go_enter Tryd.func79, Tryd.ntmps79
  go_wp2_with fail
  (with_reducible refine C.out.mono ?_); rintro e w1 ⟨rfl, hb⟩
  have W1 := Lib.hid hb; clear hb
  go_wp2_with fail
  go_ret
  exact ⟨by first | rfl | (cases b <;> rfl), W1.out⟩
/-- The first of n names that is none. -/
def bix (T : Nat → ByteArray) (n : Nat) : Int := fnd (fun k => !nameB (T k)) n
theorem bidx_none (A : Option Addr) (cap : Nat) (f : Value) (w : World) :
    Calls Tryd.prog 99 #[.slice A 0 cap, f] w fun e w' => e = .returned (.int .i64 (-1)) ∧ Below w.heap.size w w' := by
  go_enter Tryd.func99, Tryd.ntmps99
  go_wp2_with fail
  go_loopw [8] (fun t wr => t = .int .i64 0 ∧ w = wr) (fun _ _ => 0)
  case atStart => exact ⟨rfl, rfl⟩
  case round =>
    obtain ⟨rfl, rfl⟩ := hrel
    go_wp2_with fail
    go_ret
    exact ⟨rfl, Below.refl _ _⟩
theorem bidx_w (n cap b off : Nat) (T : Nat → ByteArray) (w : World) (hm : cap ≤ 9223372036854775807) (hc : n ≤ cap) (HV : Hid (∀ k, k < n → w.cell? ⟨b, off + k, none⟩ = some (.string (T k)))) :
    Calls Tryd.prog 99 #[.slice (some ⟨b, off, none⟩) n cap, .func (.func 79) #[] #[]] w fun e w' => e = .returned (.int .i64 (bix T n)) ∧ Below w.heap.size w w' := by
  go_enter Tryd.func99, Tryd.ntmps99
  obtain ⟨r, hr⟩ : ∃ r, r = bix T n := ⟨_, rfl⟩
  rw [← hr]
  have HR := Lib.hid hr; clear hr
  go_wp2_with fail
  go_loopw [5, 8] (fun _ t wr => ∃ k : Nat, k ≤ n ∧ t = .int .i64 k ∧ (∀ j, j < k → (!nameB (T j)) = false) ∧ Below w.heap.size w wr) (fun _ t _ => n - (intOf t).toNat)
  case atStart => exact ⟨0, Nat.zero_le _, rfl, fun j hj => absurd hj (Nat.not_lt_zero j), Below.refl _ _⟩
  case round =>
    obtain ⟨k, hk, rfl, hno, hbl⟩ := hrel
    have HN := Lib.hid hno; have HB := Lib.hid hbl; clear hno
    by_cases hlt : k < n
    · have c0 := keep hbl (HV.out k hlt)
      have hl : (k : Int) < (n : Int) := by omega
      have hcall := bad1 (T k) wr
      have HS := Lib.hid (show ∀ hh : (!nameB (T k)) = false, ∀ j, j < k + 1 → (!nameB (T j)) = false from fun hh j hj => by
        rcases Nat.lt_or_ge j k with hl | hl
        · exact HN.out j hl
        · rw [show j = k from by omega]; exact hh)
      have HT := Lib.hid (show ∀ hh : (!nameB (T k)) = true, r = k from fun hh => by rw [HR.out]; exact fnd_at (p := fun k => !nameB (T k)) HN.out hh n hlt)
      clear hbl
      generalize (!nameB (T k)) = d at *
      cases d with
      | true =>
        have e := HT.out rfl
        subst e
        go_wp2_with fail
        (with_reducible refine hcall.mono ?_); rintro e w' ⟨rfl, hb'⟩
        go_wp2_with fail
        go_ret
        exact ⟨rfl, b_next HB.out hb'⟩
      | false =>
        go_wp2_with fail
        (with_reducible refine hcall.mono ?_); rintro e w' ⟨rfl, hb'⟩
        go_wp2_with fail
        exact ⟨⟨k + 1, by omega, by go_num, (by first | exact HS.out rfl | exact HS.out trivial), b_next HB.out hb'⟩, by simp [intOf]; omega⟩
    · have he : k = n := by omega
      have hl : ¬ (k : Int) < (n : Int) := by omega
      have e : r = -1 := by rw [HR.out]; exact fnd_no (p := fun k => !nameB (T k)) (fun j hj => HN.out j (by omega))
      subst e
      clear hbl
      go_wp2_with fail
      go_ret
      exact ⟨rfl, HB.out⟩
theorem bcont_w (v f : Value) (r : Int) (w : World) (H : Hid (∀ w1, Below w.heap.size w w1 → Calls Tryd.prog 99 #[v, f] w1 fun e w' => e = .returned (.int .i64 r) ∧ Below w1.heap.size w1 w')) :
    Calls Tryd.prog 78 #[v, f] w fun e w' => e = .returned (.bool (decide (0 ≤ r))) ∧ Below w.heap.size w w' := by
  go_enter Tryd.func78, Tryd.ntmps78
  go_wp2_with fail
  (with_reducible refine (H.out _ (Below.refl _ _)).mono ?_); rintro e w' ⟨rfl, hb⟩
  have HB := Lib.hid hb; clear hb
  go_wp2_with fail
  all_goals (go_ret; exact ⟨by first | rfl | exact retb (by simp; omega), HB.out⟩)
theorem bcontC {v : Value} {n : Nat} {T : Nat → ByteArray} {w : World} (hv : SV w v n T) : ∀ w1, Below w.heap.size w w1 →
    Calls Tryd.prog 78 #[v, .func (.func 79) #[] #[]] w1 fun e w' => e = .returned (.bool (decide (0 ≤ bix T n))) ∧ Below w1.heap.size w1 w' := fun w1 hb => by
  refine bcont_w v _ _ w1 (Lib.hid fun w2 hb2 => ?_)
  have hv2 := sv_keep hb2 (sv_keep hb hv)
  rcases hv2 with ⟨rfl, h⟩ | ⟨h0, b, off, cap, rfl, h1, h2, h3⟩
  · obtain ⟨A, cap, rfl⟩ := nil0_slice h
    exact bidx_none A cap _ w2
  · exact bidx_w n cap b off T w2 (Nat.le_trans h2 (by decide)) h1 (Lib.hid h3)
/-- plantext.Check's error. -/
def planE (c k f t : ByteArray) (off sp h : Int) (n : Nat) (T : Nat → ByteArray) : Int :=
  if nameB c = false ∨ nameB k = false ∨ nameB f = false ∨ nameB t = false then 5 else if off < 0 ∨ 200000 < off then 12 else if sp < 1 ∨ 400 < sp ∨ h < 1 ∨ 60000 < h then 4 else if 24 < n then 2 else if 0 ≤ bix T n then 5 else 0
/-- A plan's value. -/
abbrev plan (c k f t : ByteArray) (off sp h : Int) (r : Value) : Value := .agg #[.string c, .string k, .string f, .string t, .int .i64 off, .int .i64 sp, .int .i64 h, r]
structure N8 (w : World) (b : Nat) (c k f t : ByteArray) (off sp h : Int) (r : Value) : Prop where
  c0 : w.cell? ⟨b, 0, none⟩ = some (.string c)
  c1 : w.cell? ⟨b, 1, none⟩ = some (.string k)
  c2 : w.cell? ⟨b, 2, none⟩ = some (.string f)
  c3 : w.cell? ⟨b, 3, none⟩ = some (.string t)
  c4 : w.cell? ⟨b, 4, none⟩ = some (.int .i64 off)
  c5 : w.cell? ⟨b, 5, none⟩ = some (.int .i64 sp)
  c6 : w.cell? ⟨b, 6, none⟩ = some (.int .i64 h)
  c7 : w.cell? ⟨b, 7, none⟩ = some r
theorem n8_keep {W w1 : World} (hb : Below W.heap.size W w1) {b : Nat} {c k f t : ByteArray} {off sp h : Int} {r : Value} (n : N8 W b c k f t off sp h r) : N8 w1 b c k f t off sp h r := ⟨keep hb n.c0, keep hb n.c1, keep hb n.c2, keep hb n.c3, keep hb n.c4, keep hb n.c5, keep hb n.c6, keep hb n.c7⟩
theorem n8_new (w : World) (ty : TypeId) (c k f t : ByteArray) (off sp h : Int) (r : Value) : N8 (w.alloc (.cells #[.string c, .string k, .string f, .string t, .int .i64 off, .int .i64 sp, .int .i64 h, r] ty)) w.heap.size c k f t off sp h r := ⟨by simp, by simp, by simp, by simp, by simp, by simp, by simp, by simp⟩
abbrev NmC (s : ByteArray) (b : Bool) : Prop := ∀ w, Calls Tryd.prog 77 #[.string s] w fun e w' => e = .returned (.bool b) ∧ Below w.heap.size w w'
set_option maxRecDepth 100000 in
set_option maxHeartbeats 4000000 in
theorem chk_n0 (c k f t : ByteArray) (off sp h : Int) (A : Option Addr) (n cap : Nat) (w : World) (H0 : Hid (NmC c false)) :
    Calls Tryd.prog 51 #[plan c k f t off sp h (.slice A n cap)] w fun e w' => e = .returned (.int .i64 5) ∧ Below w.heap.size w w' := by
  have N0 := Lib.hid (n8_new w 50 c k f t off sp h (.slice A n cap))
  have W0 := Lib.hid (b_alloc (Below.refl w.heap.size w) (.cells #[.string c, .string k, .string f, .string t, .int .i64 off, .int .i64 sp, .int .i64 h, .slice A n cap] 50))
  go_enter Tryd.func51, Tryd.ntmps51
  obtain ⟨c0, c1, c2, c3, c4, c5, c6, c7⟩ := N0.out
  go_wp2_with fail
  (with_reducible refine (H0.out _).mono ?_); rintro e w1 ⟨rfl, hb⟩
  have W1 := Lib.hid (b_next W0.out hb); have N1 := Lib.hid (n8_keep hb N0.out); clear hb c0 c1 c2 c3 c4 c5 c6 c7
  go_wp2_with fail
  go_ret
  exact ⟨rfl, W1.out⟩
set_option maxRecDepth 100000 in
set_option maxHeartbeats 4000000 in
theorem chk_n1 (c k f t : ByteArray) (off sp h : Int) (A : Option Addr) (n cap : Nat) (w : World) (H0 : Hid (NmC c true)) (H1 : Hid (NmC k false)) :
    Calls Tryd.prog 51 #[plan c k f t off sp h (.slice A n cap)] w fun e w' => e = .returned (.int .i64 5) ∧ Below w.heap.size w w' := by
  have N0 := Lib.hid (n8_new w 50 c k f t off sp h (.slice A n cap))
  have W0 := Lib.hid (b_alloc (Below.refl w.heap.size w) (.cells #[.string c, .string k, .string f, .string t, .int .i64 off, .int .i64 sp, .int .i64 h, .slice A n cap] 50))
  go_enter Tryd.func51, Tryd.ntmps51
  obtain ⟨c0, c1, c2, c3, c4, c5, c6, c7⟩ := N0.out
  go_wp2_with fail
  (with_reducible refine (H0.out _).mono ?_); rintro e w1 ⟨rfl, hb⟩
  have W1 := Lib.hid (b_next W0.out hb); have N1 := Lib.hid (n8_keep hb N0.out); clear hb c0 c1 c2 c3 c4 c5 c6 c7
  obtain ⟨c0, c1, c2, c3, c4, c5, c6, c7⟩ := N1.out
  go_wp2_with fail
  (with_reducible refine (H1.out _).mono ?_); rintro e w2 ⟨rfl, hb⟩
  have W2 := Lib.hid (b_next W1.out hb); have N2 := Lib.hid (n8_keep hb N1.out); clear hb c0 c1 c2 c3 c4 c5 c6 c7
  go_wp2_with fail
  go_ret
  exact ⟨rfl, W2.out⟩
set_option maxRecDepth 100000 in
set_option maxHeartbeats 4000000 in
theorem chk_n2 (c k f t : ByteArray) (off sp h : Int) (A : Option Addr) (n cap : Nat) (w : World) (H0 : Hid (NmC c true)) (H1 : Hid (NmC k true)) (H2 : Hid (NmC f false)) :
    Calls Tryd.prog 51 #[plan c k f t off sp h (.slice A n cap)] w fun e w' => e = .returned (.int .i64 5) ∧ Below w.heap.size w w' := by
  have N0 := Lib.hid (n8_new w 50 c k f t off sp h (.slice A n cap))
  have W0 := Lib.hid (b_alloc (Below.refl w.heap.size w) (.cells #[.string c, .string k, .string f, .string t, .int .i64 off, .int .i64 sp, .int .i64 h, .slice A n cap] 50))
  go_enter Tryd.func51, Tryd.ntmps51
  obtain ⟨c0, c1, c2, c3, c4, c5, c6, c7⟩ := N0.out
  go_wp2_with fail
  (with_reducible refine (H0.out _).mono ?_); rintro e w1 ⟨rfl, hb⟩
  have W1 := Lib.hid (b_next W0.out hb); have N1 := Lib.hid (n8_keep hb N0.out); clear hb c0 c1 c2 c3 c4 c5 c6 c7
  obtain ⟨c0, c1, c2, c3, c4, c5, c6, c7⟩ := N1.out
  go_wp2_with fail
  (with_reducible refine (H1.out _).mono ?_); rintro e w2 ⟨rfl, hb⟩
  have W2 := Lib.hid (b_next W1.out hb); have N2 := Lib.hid (n8_keep hb N1.out); clear hb c0 c1 c2 c3 c4 c5 c6 c7
  obtain ⟨c0, c1, c2, c3, c4, c5, c6, c7⟩ := N2.out
  go_wp2_with fail
  (with_reducible refine (H2.out _).mono ?_); rintro e w3 ⟨rfl, hb⟩
  have W3 := Lib.hid (b_next W2.out hb); have N3 := Lib.hid (n8_keep hb N2.out); clear hb c0 c1 c2 c3 c4 c5 c6 c7
  go_wp2_with fail
  go_ret
  exact ⟨rfl, W3.out⟩
set_option maxRecDepth 100000 in
set_option maxHeartbeats 4000000 in
theorem chk_n3 (c k f t : ByteArray) (off sp h : Int) (A : Option Addr) (n cap : Nat) (w : World) (H0 : Hid (NmC c true)) (H1 : Hid (NmC k true)) (H2 : Hid (NmC f true)) (H3 : Hid (NmC t false)) :
    Calls Tryd.prog 51 #[plan c k f t off sp h (.slice A n cap)] w fun e w' => e = .returned (.int .i64 5) ∧ Below w.heap.size w w' := by
  have N0 := Lib.hid (n8_new w 50 c k f t off sp h (.slice A n cap))
  have W0 := Lib.hid (b_alloc (Below.refl w.heap.size w) (.cells #[.string c, .string k, .string f, .string t, .int .i64 off, .int .i64 sp, .int .i64 h, .slice A n cap] 50))
  go_enter Tryd.func51, Tryd.ntmps51
  obtain ⟨c0, c1, c2, c3, c4, c5, c6, c7⟩ := N0.out
  go_wp2_with fail
  (with_reducible refine (H0.out _).mono ?_); rintro e w1 ⟨rfl, hb⟩
  have W1 := Lib.hid (b_next W0.out hb); have N1 := Lib.hid (n8_keep hb N0.out); clear hb c0 c1 c2 c3 c4 c5 c6 c7
  obtain ⟨c0, c1, c2, c3, c4, c5, c6, c7⟩ := N1.out
  go_wp2_with fail
  (with_reducible refine (H1.out _).mono ?_); rintro e w2 ⟨rfl, hb⟩
  have W2 := Lib.hid (b_next W1.out hb); have N2 := Lib.hid (n8_keep hb N1.out); clear hb c0 c1 c2 c3 c4 c5 c6 c7
  obtain ⟨c0, c1, c2, c3, c4, c5, c6, c7⟩ := N2.out
  go_wp2_with fail
  (with_reducible refine (H2.out _).mono ?_); rintro e w3 ⟨rfl, hb⟩
  have W3 := Lib.hid (b_next W2.out hb); have N3 := Lib.hid (n8_keep hb N2.out); clear hb c0 c1 c2 c3 c4 c5 c6 c7
  obtain ⟨c0, c1, c2, c3, c4, c5, c6, c7⟩ := N3.out
  go_wp2_with fail
  (with_reducible refine (H3.out _).mono ?_); rintro e w4 ⟨rfl, hb⟩
  have W4 := Lib.hid (b_next W3.out hb); have N4 := Lib.hid (n8_keep hb N3.out); clear hb c0 c1 c2 c3 c4 c5 c6 c7
  go_wp2_with fail
  go_ret
  exact ⟨rfl, W4.out⟩
set_option maxRecDepth 100000 in
set_option maxHeartbeats 4000000 in
theorem chk_off (c k f t : ByteArray) (off sp h : Int) (A : Option Addr) (n cap : Nat) (w : World) (H0 : Hid (NmC c true)) (H1 : Hid (NmC k true)) (H2 : Hid (NmC f true)) (H3 : Hid (NmC t true)) (ho : off < 0 ∨ 200000 < off) :
    Calls Tryd.prog 51 #[plan c k f t off sp h (.slice A n cap)] w fun e w' => e = .returned (.int .i64 12) ∧ Below w.heap.size w w' := by
  have N0 := Lib.hid (n8_new w 50 c k f t off sp h (.slice A n cap))
  have W0 := Lib.hid (b_alloc (Below.refl w.heap.size w) (.cells #[.string c, .string k, .string f, .string t, .int .i64 off, .int .i64 sp, .int .i64 h, .slice A n cap] 50))
  go_enter Tryd.func51, Tryd.ntmps51
  obtain ⟨c0, c1, c2, c3, c4, c5, c6, c7⟩ := N0.out
  go_wp2_with fail
  (with_reducible refine (H0.out _).mono ?_); rintro e w1 ⟨rfl, hb⟩
  have W1 := Lib.hid (b_next W0.out hb); have N1 := Lib.hid (n8_keep hb N0.out); clear hb c0 c1 c2 c3 c4 c5 c6 c7
  obtain ⟨c0, c1, c2, c3, c4, c5, c6, c7⟩ := N1.out
  go_wp2_with fail
  (with_reducible refine (H1.out _).mono ?_); rintro e w2 ⟨rfl, hb⟩
  have W2 := Lib.hid (b_next W1.out hb); have N2 := Lib.hid (n8_keep hb N1.out); clear hb c0 c1 c2 c3 c4 c5 c6 c7
  obtain ⟨c0, c1, c2, c3, c4, c5, c6, c7⟩ := N2.out
  go_wp2_with fail
  (with_reducible refine (H2.out _).mono ?_); rintro e w3 ⟨rfl, hb⟩
  have W3 := Lib.hid (b_next W2.out hb); have N3 := Lib.hid (n8_keep hb N2.out); clear hb c0 c1 c2 c3 c4 c5 c6 c7
  obtain ⟨c0, c1, c2, c3, c4, c5, c6, c7⟩ := N3.out
  go_wp2_with fail
  (with_reducible refine (H3.out _).mono ?_); rintro e w4 ⟨rfl, hb⟩
  have W4 := Lib.hid (b_next W3.out hb); have N4 := Lib.hid (n8_keep hb N3.out); clear hb c0 c1 c2 c3 c4 c5 c6 c7
  obtain ⟨c0, c1, c2, c3, c4, c5, c6, c7⟩ := N4.out
  go_wp2_with fail
  all_goals first | (exfalso; omega) | (go_ret; exact ⟨rfl, W4.out⟩)
set_option maxRecDepth 100000 in
set_option maxHeartbeats 4000000 in
theorem chk_rng (c k f t : ByteArray) (off sp h : Int) (A : Option Addr) (n cap : Nat) (w : World) (H0 : Hid (NmC c true)) (H1 : Hid (NmC k true)) (H2 : Hid (NmC f true)) (H3 : Hid (NmC t true)) (ho : 0 ≤ off ∧ off ≤ 200000) (hr : sp < 1 ∨ 400 < sp ∨ h < 1 ∨ 60000 < h) :
    Calls Tryd.prog 51 #[plan c k f t off sp h (.slice A n cap)] w fun e w' => e = .returned (.int .i64 4) ∧ Below w.heap.size w w' := by
  have g1 : ¬ off < 0 := by omega
  have g2 : ¬ 200000 < off := by omega
  have N0 := Lib.hid (n8_new w 50 c k f t off sp h (.slice A n cap))
  have W0 := Lib.hid (b_alloc (Below.refl w.heap.size w) (.cells #[.string c, .string k, .string f, .string t, .int .i64 off, .int .i64 sp, .int .i64 h, .slice A n cap] 50))
  go_enter Tryd.func51, Tryd.ntmps51
  obtain ⟨c0, c1, c2, c3, c4, c5, c6, c7⟩ := N0.out
  go_wp2_with fail
  (with_reducible refine (H0.out _).mono ?_); rintro e w1 ⟨rfl, hb⟩
  have W1 := Lib.hid (b_next W0.out hb); have N1 := Lib.hid (n8_keep hb N0.out); clear hb c0 c1 c2 c3 c4 c5 c6 c7
  obtain ⟨c0, c1, c2, c3, c4, c5, c6, c7⟩ := N1.out
  go_wp2_with fail
  (with_reducible refine (H1.out _).mono ?_); rintro e w2 ⟨rfl, hb⟩
  have W2 := Lib.hid (b_next W1.out hb); have N2 := Lib.hid (n8_keep hb N1.out); clear hb c0 c1 c2 c3 c4 c5 c6 c7
  obtain ⟨c0, c1, c2, c3, c4, c5, c6, c7⟩ := N2.out
  go_wp2_with fail
  (with_reducible refine (H2.out _).mono ?_); rintro e w3 ⟨rfl, hb⟩
  have W3 := Lib.hid (b_next W2.out hb); have N3 := Lib.hid (n8_keep hb N2.out); clear hb c0 c1 c2 c3 c4 c5 c6 c7
  obtain ⟨c0, c1, c2, c3, c4, c5, c6, c7⟩ := N3.out
  go_wp2_with fail
  (with_reducible refine (H3.out _).mono ?_); rintro e w4 ⟨rfl, hb⟩
  have W4 := Lib.hid (b_next W3.out hb); have N4 := Lib.hid (n8_keep hb N3.out); clear hb c0 c1 c2 c3 c4 c5 c6 c7
  obtain ⟨c0, c1, c2, c3, c4, c5, c6, c7⟩ := N4.out
  go_wp2_with fail
  all_goals first | (exfalso; omega) | (go_ret; exact ⟨rfl, W4.out⟩)
set_option maxRecDepth 100000 in
set_option maxHeartbeats 4000000 in
theorem chk_big (c k f t : ByteArray) (off sp h : Int) (A : Option Addr) (n cap : Nat) (w : World) (H0 : Hid (NmC c true)) (H1 : Hid (NmC k true)) (H2 : Hid (NmC f true)) (H3 : Hid (NmC t true)) (ho : 0 ≤ off ∧ off ≤ 200000) (hr : (1 ≤ sp ∧ sp ≤ 400) ∧ 1 ≤ h ∧ h ≤ 60000) (hn : 24 < n) :
    Calls Tryd.prog 51 #[plan c k f t off sp h (.slice A n cap)] w fun e w' => e = .returned (.int .i64 2) ∧ Below w.heap.size w w' := by
  have g0 : (24 : Int) < (n : Int) := by omega
  have g1 : ¬ off < 0 := by omega
  have g2 : ¬ 200000 < off := by omega
  have g3 : ¬ sp < 1 := by omega
  have g4 : ¬ 400 < sp := by omega
  have g5 : ¬ h < 1 := by omega
  have g6 : ¬ 60000 < h := by omega
  have N0 := Lib.hid (n8_new w 50 c k f t off sp h (.slice A n cap))
  have W0 := Lib.hid (b_alloc (Below.refl w.heap.size w) (.cells #[.string c, .string k, .string f, .string t, .int .i64 off, .int .i64 sp, .int .i64 h, .slice A n cap] 50))
  go_enter Tryd.func51, Tryd.ntmps51
  obtain ⟨c0, c1, c2, c3, c4, c5, c6, c7⟩ := N0.out
  go_wp2_with fail
  (with_reducible refine (H0.out _).mono ?_); rintro e w1 ⟨rfl, hb⟩
  have W1 := Lib.hid (b_next W0.out hb); have N1 := Lib.hid (n8_keep hb N0.out); clear hb c0 c1 c2 c3 c4 c5 c6 c7
  obtain ⟨c0, c1, c2, c3, c4, c5, c6, c7⟩ := N1.out
  go_wp2_with fail
  (with_reducible refine (H1.out _).mono ?_); rintro e w2 ⟨rfl, hb⟩
  have W2 := Lib.hid (b_next W1.out hb); have N2 := Lib.hid (n8_keep hb N1.out); clear hb c0 c1 c2 c3 c4 c5 c6 c7
  obtain ⟨c0, c1, c2, c3, c4, c5, c6, c7⟩ := N2.out
  go_wp2_with fail
  (with_reducible refine (H2.out _).mono ?_); rintro e w3 ⟨rfl, hb⟩
  have W3 := Lib.hid (b_next W2.out hb); have N3 := Lib.hid (n8_keep hb N2.out); clear hb c0 c1 c2 c3 c4 c5 c6 c7
  obtain ⟨c0, c1, c2, c3, c4, c5, c6, c7⟩ := N3.out
  go_wp2_with fail
  (with_reducible refine (H3.out _).mono ?_); rintro e w4 ⟨rfl, hb⟩
  have W4 := Lib.hid (b_next W3.out hb); have N4 := Lib.hid (n8_keep hb N3.out); clear hb c0 c1 c2 c3 c4 c5 c6 c7
  obtain ⟨c0, c1, c2, c3, c4, c5, c6, c7⟩ := N4.out
  go_wp2_with fail
  all_goals first | (exfalso; omega) | (go_ret; exact ⟨rfl, W4.out⟩)
set_option maxRecDepth 100000 in
set_option maxHeartbeats 4000000 in
theorem chk_bad (c k f t : ByteArray) (off sp h : Int) (A : Option Addr) (n cap : Nat) (w : World) (H0 : Hid (NmC c true)) (H1 : Hid (NmC k true)) (H2 : Hid (NmC f true)) (H3 : Hid (NmC t true)) (ho : 0 ≤ off ∧ off ≤ 200000) (hr : (1 ≤ sp ∧ sp ≤ 400) ∧ 1 ≤ h ∧ h ≤ 60000) (hn : n ≤ 24) (B : Hid (∀ w1, Below w.heap.size w w1 → Calls Tryd.prog 78 #[.slice A n cap, .func (.func 79) #[] #[]] w1 fun e w' => e = .returned (.bool true) ∧ Below w1.heap.size w1 w')) :
    Calls Tryd.prog 51 #[plan c k f t off sp h (.slice A n cap)] w fun e w' => e = .returned (.int .i64 5) ∧ Below w.heap.size w w' := by
  have g0 : ¬ (24 : Int) < (n : Int) := by omega
  have g1 : ¬ off < 0 := by omega
  have g2 : ¬ 200000 < off := by omega
  have g3 : ¬ sp < 1 := by omega
  have g4 : ¬ 400 < sp := by omega
  have g5 : ¬ h < 1 := by omega
  have g6 : ¬ 60000 < h := by omega
  have N0 := Lib.hid (n8_new w 50 c k f t off sp h (.slice A n cap))
  have W0 := Lib.hid (b_alloc (Below.refl w.heap.size w) (.cells #[.string c, .string k, .string f, .string t, .int .i64 off, .int .i64 sp, .int .i64 h, .slice A n cap] 50))
  go_enter Tryd.func51, Tryd.ntmps51
  obtain ⟨c0, c1, c2, c3, c4, c5, c6, c7⟩ := N0.out
  go_wp2_with fail
  (with_reducible refine (H0.out _).mono ?_); rintro e w1 ⟨rfl, hb⟩
  have W1 := Lib.hid (b_next W0.out hb); have N1 := Lib.hid (n8_keep hb N0.out); clear hb c0 c1 c2 c3 c4 c5 c6 c7
  obtain ⟨c0, c1, c2, c3, c4, c5, c6, c7⟩ := N1.out
  go_wp2_with fail
  (with_reducible refine (H1.out _).mono ?_); rintro e w2 ⟨rfl, hb⟩
  have W2 := Lib.hid (b_next W1.out hb); have N2 := Lib.hid (n8_keep hb N1.out); clear hb c0 c1 c2 c3 c4 c5 c6 c7
  obtain ⟨c0, c1, c2, c3, c4, c5, c6, c7⟩ := N2.out
  go_wp2_with fail
  (with_reducible refine (H2.out _).mono ?_); rintro e w3 ⟨rfl, hb⟩
  have W3 := Lib.hid (b_next W2.out hb); have N3 := Lib.hid (n8_keep hb N2.out); clear hb c0 c1 c2 c3 c4 c5 c6 c7
  obtain ⟨c0, c1, c2, c3, c4, c5, c6, c7⟩ := N3.out
  go_wp2_with fail
  (with_reducible refine (H3.out _).mono ?_); rintro e w4 ⟨rfl, hb⟩
  have W4 := Lib.hid (b_next W3.out hb); have N4 := Lib.hid (n8_keep hb N3.out); clear hb c0 c1 c2 c3 c4 c5 c6 c7
  obtain ⟨c0, c1, c2, c3, c4, c5, c6, c7⟩ := N4.out
  go_wp2_with fail
  all_goals try (exfalso; omega)
  (with_reducible refine (B.out _ W4.out).mono ?_); rintro e w5 ⟨rfl, hb⟩
  have W5 := Lib.hid (b_next W4.out hb); clear hb
  go_wp2_with fail
  go_ret
  exact ⟨rfl, W5.out⟩
set_option maxRecDepth 100000 in
set_option maxHeartbeats 4000000 in
theorem chk_ok (c k f t : ByteArray) (off sp h : Int) (A : Option Addr) (n cap : Nat) (w : World) (H0 : Hid (NmC c true)) (H1 : Hid (NmC k true)) (H2 : Hid (NmC f true)) (H3 : Hid (NmC t true)) (ho : 0 ≤ off ∧ off ≤ 200000) (hr : (1 ≤ sp ∧ sp ≤ 400) ∧ 1 ≤ h ∧ h ≤ 60000) (hn : n ≤ 24) (B : Hid (∀ w1, Below w.heap.size w w1 → Calls Tryd.prog 78 #[.slice A n cap, .func (.func 79) #[] #[]] w1 fun e w' => e = .returned (.bool false) ∧ Below w1.heap.size w1 w')) :
    Calls Tryd.prog 51 #[plan c k f t off sp h (.slice A n cap)] w fun e w' => e = .returned (.int .i64 0) ∧ Below w.heap.size w w' := by
  have g0 : ¬ (24 : Int) < (n : Int) := by omega
  have g1 : ¬ off < 0 := by omega
  have g2 : ¬ 200000 < off := by omega
  have g3 : ¬ sp < 1 := by omega
  have g4 : ¬ 400 < sp := by omega
  have g5 : ¬ h < 1 := by omega
  have g6 : ¬ 60000 < h := by omega
  have N0 := Lib.hid (n8_new w 50 c k f t off sp h (.slice A n cap))
  have W0 := Lib.hid (b_alloc (Below.refl w.heap.size w) (.cells #[.string c, .string k, .string f, .string t, .int .i64 off, .int .i64 sp, .int .i64 h, .slice A n cap] 50))
  go_enter Tryd.func51, Tryd.ntmps51
  obtain ⟨c0, c1, c2, c3, c4, c5, c6, c7⟩ := N0.out
  go_wp2_with fail
  (with_reducible refine (H0.out _).mono ?_); rintro e w1 ⟨rfl, hb⟩
  have W1 := Lib.hid (b_next W0.out hb); have N1 := Lib.hid (n8_keep hb N0.out); clear hb c0 c1 c2 c3 c4 c5 c6 c7
  obtain ⟨c0, c1, c2, c3, c4, c5, c6, c7⟩ := N1.out
  go_wp2_with fail
  (with_reducible refine (H1.out _).mono ?_); rintro e w2 ⟨rfl, hb⟩
  have W2 := Lib.hid (b_next W1.out hb); have N2 := Lib.hid (n8_keep hb N1.out); clear hb c0 c1 c2 c3 c4 c5 c6 c7
  obtain ⟨c0, c1, c2, c3, c4, c5, c6, c7⟩ := N2.out
  go_wp2_with fail
  (with_reducible refine (H2.out _).mono ?_); rintro e w3 ⟨rfl, hb⟩
  have W3 := Lib.hid (b_next W2.out hb); have N3 := Lib.hid (n8_keep hb N2.out); clear hb c0 c1 c2 c3 c4 c5 c6 c7
  obtain ⟨c0, c1, c2, c3, c4, c5, c6, c7⟩ := N3.out
  go_wp2_with fail
  (with_reducible refine (H3.out _).mono ?_); rintro e w4 ⟨rfl, hb⟩
  have W4 := Lib.hid (b_next W3.out hb); have N4 := Lib.hid (n8_keep hb N3.out); clear hb c0 c1 c2 c3 c4 c5 c6 c7
  obtain ⟨c0, c1, c2, c3, c4, c5, c6, c7⟩ := N4.out
  go_wp2_with fail
  all_goals try (exfalso; omega)
  (with_reducible refine (B.out _ W4.out).mono ?_); rintro e w5 ⟨rfl, hb⟩
  have W5 := Lib.hid (b_next W4.out hb); clear hb
  go_wp2_with fail
  go_ret
  exact ⟨rfl, W5.out⟩
theorem checkC {c k f t : ByteArray} {off sp h : Int} {r : Value} {n : Nat} {T : Nat → ByteArray} {w : World} (hv : SV w r n T) : ∀ w1, Below w.heap.size w w1 →
    Calls Tryd.prog 51 #[plan c k f t off sp h r] w1 fun e w' => e = .returned (.int .i64 (planE c k f t off sp h n T)) ∧ Below w1.heap.size w1 w' := fun w1 hb => by
  have B := bcontC (sv_keep hb hv)
  obtain ⟨A, cap, rfl⟩ := sv_slice hv
  unfold planE
  have key : ∀ s, (nameB s = false → Hid (NmC s false)) ∧ (¬ nameB s = false → Hid (NmC s true)) := fun s => ⟨fun h => Lib.hid fun w => by have c := nameC s w; rw [h] at c; exact c, fun h => Lib.hid fun w => by have c := nameC s w; rw [Bool.not_eq_false] at h; rw [h] at c; exact c⟩
  by_cases h0 : nameB c = false
  · rw [if_pos (Or.inl h0)]; exact chk_n0 c k f t off sp h A n cap w1 ((key c).1 h0)
  have H0 := (key c).2 h0
  by_cases h1 : nameB k = false
  · rw [if_pos (Or.inr (Or.inl h1))]; exact chk_n1 c k f t off sp h A n cap w1 H0 ((key k).1 h1)
  have H1 := (key k).2 h1
  by_cases h2 : nameB f = false
  · rw [if_pos (Or.inr (Or.inr (Or.inl h2)))]; exact chk_n2 c k f t off sp h A n cap w1 H0 H1 ((key f).1 h2)
  have H2 := (key f).2 h2
  by_cases h3 : nameB t = false
  · rw [if_pos (Or.inr (Or.inr (Or.inr h3)))]; exact chk_n3 c k f t off sp h A n cap w1 H0 H1 H2 ((key t).1 h3)
  have H3 := (key t).2 h3
  rw [if_neg (by rintro (h | h | h | h) <;> contradiction)]
  by_cases h4 : off < 0 ∨ 200000 < off
  · rw [if_pos h4]; exact chk_off c k f t off sp h A n cap w1 H0 H1 H2 H3 h4
  rw [if_neg h4]
  by_cases h5 : sp < 1 ∨ 400 < sp ∨ h < 1 ∨ 60000 < h
  · rw [if_pos h5]; exact chk_rng c k f t off sp h A n cap w1 H0 H1 H2 H3 (by omega) h5
  rw [if_neg h5]
  by_cases h6 : 24 < n
  · rw [if_pos h6]; exact chk_big c k f t off sp h A n cap w1 H0 H1 H2 H3 (by omega) (by omega) h6
  rw [if_neg h6]
  by_cases h7 : 0 ≤ bix T n
  · rw [if_pos h7]; rw [decide_eq_true h7] at B
    exact chk_bad c k f t off sp h A n cap w1 H0 H1 H2 H3 (by omega) (by omega) (by omega) (Lib.hid B)
  · rw [if_neg h7]; rw [decide_eq_false h7] at B
    exact chk_ok c k f t off sp h A n cap w1 H0 H1 H2 H3 (by omega) (by omega) (by omega) (Lib.hid B)
end Plan
end Go.Proofs.YtkapllakofndlaaDoor
namespace Go.Proofs.YtkapllakofndlaaDoor
open Go.RowKit
namespace Kind
open Kit Name
abbrev K7 (w : World) (b : Nat) (s : ByteArray) (wake ceil climb desc slow fast : Int) : Prop := w.cell? ⟨b, 0, none⟩ = some (.string s) ∧ w.cell? ⟨b, 1, none⟩ = some (.int .i64 wake) ∧ w.cell? ⟨b, 2, none⟩ = some (.int .i64 ceil) ∧ w.cell? ⟨b, 3, none⟩ = some (.int .i64 climb) ∧ w.cell? ⟨b, 4, none⟩ = some (.int .i64 desc) ∧ w.cell? ⟨b, 5, none⟩ = some (.int .i64 slow) ∧ w.cell? ⟨b, 6, none⟩ = some (.int .i64 fast)
theorem k7_new (w : World) (ty : TypeId) (s : ByteArray) (wake ceil climb desc slow fast : Int) : K7 (w.alloc (.cells #[.string s, .int .i64 wake, .int .i64 ceil, .int .i64 climb, .int .i64 desc, .int .i64 slow, .int .i64 fast] ty)) w.heap.size s wake ceil climb desc slow fast := ⟨by simp, by simp, by simp, by simp, by simp, by simp, by simp⟩
theorem k7_keep {W w1 : World} (hb : Below W.heap.size W w1) {b : Nat} {s : ByteArray} {wake ceil climb desc slow fast : Int} (h : K7 W b s wake ceil climb desc slow fast) : K7 w1 b s wake ceil climb desc slow fast :=
  ⟨keep hb h.1, keep hb h.2.1, keep hb h.2.2.1, keep hb h.2.2.2.1, keep hb h.2.2.2.2.1, keep hb h.2.2.2.2.2.1, keep hb h.2.2.2.2.2.2⟩
abbrev NmC (s : ByteArray) (b : Bool) : Prop := ∀ w : World, Calls Tryd.prog 77 #[.string s] w fun e w' => e = .returned (.bool b) ∧ Below w.heap.size w w'
abbrev OutC (n high : Int) (b : Bool) : Prop := ∀ w : World, Calls Tryd.prog 98 #[.int .i64 n, .int .i64 high] w fun e w' => e = .returned (.bool b) ∧ w = w'
theorem out_low (n high : Int) (h : n < 1) : OutC n high true := fun w => by
  go_enter Tryd.func98, Tryd.ntmps98
  go_wp2_with fail
  go_ret
  exact ⟨rfl, rfl⟩
theorem out_high (n high : Int) (h : ¬ n < 1) (h2 : high < n) : OutC n high true := fun w => by
  go_enter Tryd.func98, Tryd.ntmps98
  go_wp2_with fail
  go_ret
  exact ⟨rfl, rfl⟩
theorem out_not (n high : Int) (h : ¬ n < 1) (h2 : ¬ high < n) : OutC n high false := fun w => by
  go_enter Tryd.func98, Tryd.ntmps98
  go_wp2_with fail
  go_ret
  exact ⟨rfl, rfl⟩
def outB (n high : Int) : Bool := decide (n < 1 ∨ high < n)
theorem outC (n high : Int) : OutC n high (outB n high) := by
  by_cases h : n < 1
  · rw [show outB n high = true from decide_eq_true (Or.inl h)]; exact out_low n high h
  · by_cases h2 : high < n
    · rw [show outB n high = true from decide_eq_true (Or.inr h2)]; exact out_high n high h h2
    · rw [show outB n high = false from decide_eq_false (by omega)]; exact out_not n high h h2
set_option maxHeartbeats 600000 in
theorem k_name (s : ByteArray) (wake ceil climb desc slow fast : Int) (w : World) (N : Hid (NmC s false)) :
    Calls Tryd.prog 75 #[.agg #[.string s, .int .i64 wake, .int .i64 ceil, .int .i64 climb, .int .i64 desc, .int .i64 slow, .int .i64 fast]] w fun e w' => e = .returned (.int .i64 5) ∧ Below w.heap.size w w' := by
  go_enter Tryd.func75, Tryd.ntmps75
  have hk := k7_new w 56 s wake ceil climb desc slow fast
  have hw := b_alloc (Below.refl w.heap.size w) (.cells #[.string s, .int .i64 wake, .int .i64 ceil, .int .i64 climb, .int .i64 desc, .int .i64 slow, .int .i64 fast] 56)
  go_wp2_with fail
  refine (N.out _).mono ?_; rintro e w1 ⟨rfl, hb⟩
  replace hk := k7_keep hb hk
  replace hw := b_next hw hb
  obtain ⟨k0, k1, k2, k3, k4, k5, k6⟩ := hk
  clear hb
  go_wp2_with fail
  go_ret
  exact ⟨rfl, hw⟩
set_option maxHeartbeats 600000 in
theorem k_wake0 (s : ByteArray) (wake ceil climb desc slow fast : Int) (w : World) (N : Hid (NmC s true)) (hw1 : wake < 0) :
    Calls Tryd.prog 75 #[.agg #[.string s, .int .i64 wake, .int .i64 ceil, .int .i64 climb, .int .i64 desc, .int .i64 slow, .int .i64 fast]] w fun e w' => e = .returned (.int .i64 1) ∧ Below w.heap.size w w' := by
  go_enter Tryd.func75, Tryd.ntmps75
  have hk := k7_new w 56 s wake ceil climb desc slow fast
  have hw := b_alloc (Below.refl w.heap.size w) (.cells #[.string s, .int .i64 wake, .int .i64 ceil, .int .i64 climb, .int .i64 desc, .int .i64 slow, .int .i64 fast] 56)
  go_wp2_with fail
  refine (N.out _).mono ?_; rintro e w1 ⟨rfl, hb⟩
  replace hk := k7_keep hb hk
  replace hw := b_next hw hb
  obtain ⟨k0, k1, k2, k3, k4, k5, k6⟩ := hk
  clear hb
  go_wp2_with fail
  go_ret
  exact ⟨rfl, hw⟩
set_option maxHeartbeats 600000 in
theorem k_wake1 (s : ByteArray) (wake ceil climb desc slow fast : Int) (w : World) (N : Hid (NmC s true)) (hw1 : ¬ wake < 0) (hw2 : 3 < wake) :
    Calls Tryd.prog 75 #[.agg #[.string s, .int .i64 wake, .int .i64 ceil, .int .i64 climb, .int .i64 desc, .int .i64 slow, .int .i64 fast]] w fun e w' => e = .returned (.int .i64 1) ∧ Below w.heap.size w w' := by
  go_enter Tryd.func75, Tryd.ntmps75
  have hk := k7_new w 56 s wake ceil climb desc slow fast
  have hw := b_alloc (Below.refl w.heap.size w) (.cells #[.string s, .int .i64 wake, .int .i64 ceil, .int .i64 climb, .int .i64 desc, .int .i64 slow, .int .i64 fast] 56)
  go_wp2_with fail
  refine (N.out _).mono ?_; rintro e w1 ⟨rfl, hb⟩
  replace hk := k7_keep hb hk
  replace hw := b_next hw hb
  obtain ⟨k0, k1, k2, k3, k4, k5, k6⟩ := hk
  clear hb
  go_wp2_with fail
  go_ret
  exact ⟨rfl, hw⟩
set_option maxHeartbeats 600000 in
theorem k_out0 (s : ByteArray) (wake ceil climb desc slow fast : Int) (w : World) (N : Hid (NmC s true)) (hw1 : ¬ wake < 0) (hw2 : ¬ 3 < wake)  (O0 : Hid (OutC ceil 60000 true)) :
    Calls Tryd.prog 75 #[.agg #[.string s, .int .i64 wake, .int .i64 ceil, .int .i64 climb, .int .i64 desc, .int .i64 slow, .int .i64 fast]] w fun e w' => e = .returned (.int .i64 4) ∧ Below w.heap.size w w' := by
  go_enter Tryd.func75, Tryd.ntmps75
  have hk := k7_new w 56 s wake ceil climb desc slow fast
  have hw := b_alloc (Below.refl w.heap.size w) (.cells #[.string s, .int .i64 wake, .int .i64 ceil, .int .i64 climb, .int .i64 desc, .int .i64 slow, .int .i64 fast] 56)
  go_wp2_with fail
  refine (N.out _).mono ?_; rintro e w1 ⟨rfl, hb⟩
  replace hk := k7_keep hb hk
  replace hw := b_next hw hb
  obtain ⟨k0, k1, k2, k3, k4, k5, k6⟩ := hk
  clear hb
  go_wp2_with fail
  refine (O0.out _).mono ?_; rintro e w2 ⟨rfl, rfl⟩
  go_wp2_with fail
  go_ret
  exact ⟨rfl, hw⟩
set_option maxHeartbeats 600000 in
theorem k_out1 (s : ByteArray) (wake ceil climb desc slow fast : Int) (w : World) (N : Hid (NmC s true)) (hw1 : ¬ wake < 0) (hw2 : ¬ 3 < wake) (O0 : Hid (OutC ceil 60000 false)) (O1 : Hid (OutC climb 200 true)) :
    Calls Tryd.prog 75 #[.agg #[.string s, .int .i64 wake, .int .i64 ceil, .int .i64 climb, .int .i64 desc, .int .i64 slow, .int .i64 fast]] w fun e w' => e = .returned (.int .i64 4) ∧ Below w.heap.size w w' := by
  go_enter Tryd.func75, Tryd.ntmps75
  have hk := k7_new w 56 s wake ceil climb desc slow fast
  have hw := b_alloc (Below.refl w.heap.size w) (.cells #[.string s, .int .i64 wake, .int .i64 ceil, .int .i64 climb, .int .i64 desc, .int .i64 slow, .int .i64 fast] 56)
  go_wp2_with fail
  refine (N.out _).mono ?_; rintro e w1 ⟨rfl, hb⟩
  replace hk := k7_keep hb hk
  replace hw := b_next hw hb
  obtain ⟨k0, k1, k2, k3, k4, k5, k6⟩ := hk
  clear hb
  go_wp2_with fail
  refine (O0.out _).mono ?_; rintro e w2 ⟨rfl, rfl⟩
  go_wp2_with fail
  refine (O1.out _).mono ?_; rintro e w2 ⟨rfl, rfl⟩
  go_wp2_with fail
  go_ret
  exact ⟨rfl, hw⟩
set_option maxHeartbeats 600000 in
theorem k_out2 (s : ByteArray) (wake ceil climb desc slow fast : Int) (w : World) (N : Hid (NmC s true)) (hw1 : ¬ wake < 0) (hw2 : ¬ 3 < wake) (O0 : Hid (OutC ceil 60000 false)) (O1 : Hid (OutC climb 200 false)) (O2 : Hid (OutC desc 200 true)) :
    Calls Tryd.prog 75 #[.agg #[.string s, .int .i64 wake, .int .i64 ceil, .int .i64 climb, .int .i64 desc, .int .i64 slow, .int .i64 fast]] w fun e w' => e = .returned (.int .i64 4) ∧ Below w.heap.size w w' := by
  go_enter Tryd.func75, Tryd.ntmps75
  have hk := k7_new w 56 s wake ceil climb desc slow fast
  have hw := b_alloc (Below.refl w.heap.size w) (.cells #[.string s, .int .i64 wake, .int .i64 ceil, .int .i64 climb, .int .i64 desc, .int .i64 slow, .int .i64 fast] 56)
  go_wp2_with fail
  refine (N.out _).mono ?_; rintro e w1 ⟨rfl, hb⟩
  replace hk := k7_keep hb hk
  replace hw := b_next hw hb
  obtain ⟨k0, k1, k2, k3, k4, k5, k6⟩ := hk
  clear hb
  go_wp2_with fail
  refine (O0.out _).mono ?_; rintro e w2 ⟨rfl, rfl⟩
  go_wp2_with fail
  refine (O1.out _).mono ?_; rintro e w2 ⟨rfl, rfl⟩
  go_wp2_with fail
  refine (O2.out _).mono ?_; rintro e w2 ⟨rfl, rfl⟩
  go_wp2_with fail
  go_ret
  exact ⟨rfl, hw⟩
set_option maxHeartbeats 600000 in
theorem k_out3 (s : ByteArray) (wake ceil climb desc slow fast : Int) (w : World) (N : Hid (NmC s true)) (hw1 : ¬ wake < 0) (hw2 : ¬ 3 < wake) (O0 : Hid (OutC ceil 60000 false)) (O1 : Hid (OutC climb 200 false)) (O2 : Hid (OutC desc 200 false)) (O3 : Hid (OutC slow 400 true)) :
    Calls Tryd.prog 75 #[.agg #[.string s, .int .i64 wake, .int .i64 ceil, .int .i64 climb, .int .i64 desc, .int .i64 slow, .int .i64 fast]] w fun e w' => e = .returned (.int .i64 4) ∧ Below w.heap.size w w' := by
  go_enter Tryd.func75, Tryd.ntmps75
  have hk := k7_new w 56 s wake ceil climb desc slow fast
  have hw := b_alloc (Below.refl w.heap.size w) (.cells #[.string s, .int .i64 wake, .int .i64 ceil, .int .i64 climb, .int .i64 desc, .int .i64 slow, .int .i64 fast] 56)
  go_wp2_with fail
  refine (N.out _).mono ?_; rintro e w1 ⟨rfl, hb⟩
  replace hk := k7_keep hb hk
  replace hw := b_next hw hb
  obtain ⟨k0, k1, k2, k3, k4, k5, k6⟩ := hk
  clear hb
  go_wp2_with fail
  refine (O0.out _).mono ?_; rintro e w2 ⟨rfl, rfl⟩
  go_wp2_with fail
  refine (O1.out _).mono ?_; rintro e w2 ⟨rfl, rfl⟩
  go_wp2_with fail
  refine (O2.out _).mono ?_; rintro e w2 ⟨rfl, rfl⟩
  go_wp2_with fail
  refine (O3.out _).mono ?_; rintro e w2 ⟨rfl, rfl⟩
  go_wp2_with fail
  go_ret
  exact ⟨rfl, hw⟩
set_option maxHeartbeats 600000 in
theorem k_out4 (s : ByteArray) (wake ceil climb desc slow fast : Int) (w : World) (N : Hid (NmC s true)) (hw1 : ¬ wake < 0) (hw2 : ¬ 3 < wake) (O0 : Hid (OutC ceil 60000 false)) (O1 : Hid (OutC climb 200 false)) (O2 : Hid (OutC desc 200 false)) (O3 : Hid (OutC slow 400 false)) (O4 : Hid (OutC fast 400 true)) :
    Calls Tryd.prog 75 #[.agg #[.string s, .int .i64 wake, .int .i64 ceil, .int .i64 climb, .int .i64 desc, .int .i64 slow, .int .i64 fast]] w fun e w' => e = .returned (.int .i64 4) ∧ Below w.heap.size w w' := by
  go_enter Tryd.func75, Tryd.ntmps75
  have hk := k7_new w 56 s wake ceil climb desc slow fast
  have hw := b_alloc (Below.refl w.heap.size w) (.cells #[.string s, .int .i64 wake, .int .i64 ceil, .int .i64 climb, .int .i64 desc, .int .i64 slow, .int .i64 fast] 56)
  go_wp2_with fail
  refine (N.out _).mono ?_; rintro e w1 ⟨rfl, hb⟩
  replace hk := k7_keep hb hk
  replace hw := b_next hw hb
  obtain ⟨k0, k1, k2, k3, k4, k5, k6⟩ := hk
  clear hb
  go_wp2_with fail
  refine (O0.out _).mono ?_; rintro e w2 ⟨rfl, rfl⟩
  go_wp2_with fail
  refine (O1.out _).mono ?_; rintro e w2 ⟨rfl, rfl⟩
  go_wp2_with fail
  refine (O2.out _).mono ?_; rintro e w2 ⟨rfl, rfl⟩
  go_wp2_with fail
  refine (O3.out _).mono ?_; rintro e w2 ⟨rfl, rfl⟩
  go_wp2_with fail
  refine (O4.out _).mono ?_; rintro e w2 ⟨rfl, rfl⟩
  go_wp2_with fail
  go_ret
  exact ⟨rfl, hw⟩
set_option maxHeartbeats 600000 in
theorem k_form (s : ByteArray) (wake ceil climb desc slow fast : Int) (w : World) (N : Hid (NmC s true)) (hw1 : ¬ wake < 0) (hw2 : ¬ 3 < wake) (O0 : Hid (OutC ceil 60000 false)) (O1 : Hid (OutC climb 200 false)) (O2 : Hid (OutC desc 200 false)) (O3 : Hid (OutC slow 400 false)) (O4 : Hid (OutC fast 400 false)) (hs : fast < slow) :
    Calls Tryd.prog 75 #[.agg #[.string s, .int .i64 wake, .int .i64 ceil, .int .i64 climb, .int .i64 desc, .int .i64 slow, .int .i64 fast]] w fun e w' => e = .returned (.int .i64 3) ∧ Below w.heap.size w w' := by
  go_enter Tryd.func75, Tryd.ntmps75
  have hk := k7_new w 56 s wake ceil climb desc slow fast
  have hw := b_alloc (Below.refl w.heap.size w) (.cells #[.string s, .int .i64 wake, .int .i64 ceil, .int .i64 climb, .int .i64 desc, .int .i64 slow, .int .i64 fast] 56)
  go_wp2_with fail
  refine (N.out _).mono ?_; rintro e w1 ⟨rfl, hb⟩
  replace hk := k7_keep hb hk
  replace hw := b_next hw hb
  obtain ⟨k0, k1, k2, k3, k4, k5, k6⟩ := hk
  clear hb
  go_wp2_with fail
  refine (O0.out _).mono ?_; rintro e w2 ⟨rfl, rfl⟩
  go_wp2_with fail
  refine (O1.out _).mono ?_; rintro e w2 ⟨rfl, rfl⟩
  go_wp2_with fail
  refine (O2.out _).mono ?_; rintro e w2 ⟨rfl, rfl⟩
  go_wp2_with fail
  refine (O3.out _).mono ?_; rintro e w2 ⟨rfl, rfl⟩
  go_wp2_with fail
  refine (O4.out _).mono ?_; rintro e w2 ⟨rfl, rfl⟩
  go_wp2_with fail
  go_ret
  exact ⟨rfl, hw⟩
set_option maxHeartbeats 600000 in
theorem k_ok (s : ByteArray) (wake ceil climb desc slow fast : Int) (w : World) (N : Hid (NmC s true)) (hw1 : ¬ wake < 0) (hw2 : ¬ 3 < wake) (O0 : Hid (OutC ceil 60000 false)) (O1 : Hid (OutC climb 200 false)) (O2 : Hid (OutC desc 200 false)) (O3 : Hid (OutC slow 400 false)) (O4 : Hid (OutC fast 400 false)) (hs : ¬ fast < slow) :
    Calls Tryd.prog 75 #[.agg #[.string s, .int .i64 wake, .int .i64 ceil, .int .i64 climb, .int .i64 desc, .int .i64 slow, .int .i64 fast]] w fun e w' => e = .returned (.int .i64 0) ∧ Below w.heap.size w w' := by
  go_enter Tryd.func75, Tryd.ntmps75
  have hk := k7_new w 56 s wake ceil climb desc slow fast
  have hw := b_alloc (Below.refl w.heap.size w) (.cells #[.string s, .int .i64 wake, .int .i64 ceil, .int .i64 climb, .int .i64 desc, .int .i64 slow, .int .i64 fast] 56)
  go_wp2_with fail
  refine (N.out _).mono ?_; rintro e w1 ⟨rfl, hb⟩
  replace hk := k7_keep hb hk
  replace hw := b_next hw hb
  obtain ⟨k0, k1, k2, k3, k4, k5, k6⟩ := hk
  clear hb
  go_wp2_with fail
  refine (O0.out _).mono ?_; rintro e w2 ⟨rfl, rfl⟩
  go_wp2_with fail
  refine (O1.out _).mono ?_; rintro e w2 ⟨rfl, rfl⟩
  go_wp2_with fail
  refine (O2.out _).mono ?_; rintro e w2 ⟨rfl, rfl⟩
  go_wp2_with fail
  refine (O3.out _).mono ?_; rintro e w2 ⟨rfl, rfl⟩
  go_wp2_with fail
  refine (O4.out _).mono ?_; rintro e w2 ⟨rfl, rfl⟩
  go_wp2_with fail
  go_ret
  exact ⟨rfl, hw⟩
/-- aircraft.Check's error. -/
def kchk (s : ByteArray) (wake ceil climb desc slow fast : Int) : Int := if nameB s = false then 5 else if wake < 0 ∨ 3 < wake then 1 else if outB ceil 60000 = true ∨ outB climb 200 = true ∨ outB desc 200 = true ∨ outB slow 400 = true ∨ outB fast 400 = true then 4 else if fast < slow then 3 else 0
theorem kindC (s : ByteArray) (wake ceil climb desc slow fast : Int) (w : World) : Calls Tryd.prog 75 #[.agg #[.string s, .int .i64 wake, .int .i64 ceil, .int .i64 climb, .int .i64 desc, .int .i64 slow, .int .i64 fast]] w fun e w' => e = .returned (.int .i64 (kchk s wake ceil climb desc slow fast)) ∧ Below w.heap.size w w' := by
  have N : Hid (NmC s (nameB s)) := Lib.hid fun w => nameC s w
  have O0 := Lib.hid (outC ceil 60000); have O1 := Lib.hid (outC climb 200); have O2 := Lib.hid (outC desc 200); have O3 := Lib.hid (outC slow 400); have O4 := Lib.hid (outC fast 400)
  unfold kchk
  generalize nameB s = nb at *
  generalize outB ceil 60000 = b0 at *; generalize outB climb 200 = b1 at *; generalize outB desc 200 = b2 at *; generalize outB slow 400 = b3 at *; generalize outB fast 400 = b4 at *
  cases nb
  · rw [if_pos rfl]; exact k_name s wake ceil climb desc slow fast w N
  · rw [if_neg (by simp)]
    by_cases h1 : wake < 0
    · rw [if_pos (Or.inl h1)]; exact k_wake0 s wake ceil climb desc slow fast w N h1
    · by_cases h2 : 3 < wake
      · rw [if_pos (Or.inr h2)]; exact k_wake1 s wake ceil climb desc slow fast w N h1 h2
      · rw [if_neg (by omega)]
        cases b0
        · cases b1
          · cases b2
            · cases b3
              · cases b4
                · rw [if_neg (by simp)]
                  by_cases h3 : fast < slow
                  · rw [if_pos h3]; exact k_form s wake ceil climb desc slow fast w N h1 h2 O0 O1 O2 O3 O4 h3
                  · rw [if_neg h3]; exact k_ok s wake ceil climb desc slow fast w N h1 h2 O0 O1 O2 O3 O4 h3
                · rw [if_pos (by simp)]; exact k_out4 s wake ceil climb desc slow fast w N h1 h2 O0 O1 O2 O3 O4
              · rw [if_pos (by simp)]; exact k_out3 s wake ceil climb desc slow fast w N h1 h2 O0 O1 O2 O3
            · rw [if_pos (by simp)]; exact k_out2 s wake ceil climb desc slow fast w N h1 h2 O0 O1 O2
          · rw [if_pos (by simp)]; exact k_out1 s wake ceil climb desc slow fast w N h1 h2 O0 O1
        · rw [if_pos (by simp)]; exact k_out0 s wake ceil climb desc slow fast w N h1 h2 O0
end Kind
end Go.Proofs.YtkapllakofndlaaDoor
namespace Go.Proofs.YtkapllakofndlaaDoor
open Go.RowKit
namespace Kind
open Kit Name
/-- fly.Profile's answer for a type that Check accepts. -/
def prof (ceil climb desc height total t : Int) : Int × Int :=
  if ceil < height then (0, 20) else if height < 0 ∨ 60000 < height ∨ total < 0 ∨ 200000 < total ∨ t < 0 ∨ total < t then (0, 4) else (min height (min (climb * t) (desc * (total - t))), 0)
abbrev KindC (s : ByteArray) (wake ceil climb desc slow fast E : Int) : Prop := ∀ w, Calls Tryd.prog 75 #[.agg #[.string s, .int .i64 wake, .int .i64 ceil, .int .i64 climb, .int .i64 desc, .int .i64 slow, .int .i64 fast]] w fun e w' => e = .returned (.int .i64 E) ∧ Below w.heap.size w w'
theorem mul_bd {a b A B : Int} (h0 : 0 ≤ a) (h1 : a ≤ A) (h2 : 0 ≤ b) (h3 : b ≤ B) : 0 ≤ a * b ∧ a * b ≤ A * B :=
  ⟨Int.mul_nonneg h0 h2, Int.mul_le_mul h1 h3 h2 (by omega)⟩
set_option maxHeartbeats 1000000 in
theorem prof_ok (s : ByteArray) (wake ceil climb desc slow fast height total t : Int) (w : World) (K : Hid (KindC s wake ceil climb desc slow fast 0))
   (a2 : 1 ≤ climb ∧ climb ≤ 200) (a3 : 1 ≤ desc ∧ desc ≤ 200) (b1 : ¬ ceil < height) (b2 : 0 ≤ height) (b3 : height ≤ 60000) (b4 : 0 ≤ total) (b5 : total ≤ 200000) (b6 : 0 ≤ t) (b7 : t ≤ total) :
    Calls Tryd.prog 46 #[.agg #[.string s, .int .i64 wake, .int .i64 ceil, .int .i64 climb, .int .i64 desc, .int .i64 slow, .int .i64 fast], .int .i64 height, .int .i64 total, .int .i64 t] w fun e w' => e = .returned (.tuple #[.int .i64 (min height (min (climb * t) (desc * (total - t)))), .int .i64 0]) ∧ Below w.heap.size w w' := by
  have p1 := mul_bd (by omega) a2.2 b6 (show t ≤ 200000 by omega)
  have p2 := mul_bd (by omega) a3.2 (show 0 ≤ total - t by omega) (show total - t ≤ 200000 by omega)
  go_enter Tryd.func46, Tryd.ntmps46
  have hk := k7_new w 56 s wake ceil climb desc slow fast
  have hw := b_alloc (Below.refl w.heap.size w) (.cells #[.string s, .int .i64 wake, .int .i64 ceil, .int .i64 climb, .int .i64 desc, .int .i64 slow, .int .i64 fast] 56)
  go_wp2_with fail
  refine (K.out _).mono ?_; rintro e w1 ⟨rfl, hb⟩
  replace hk := k7_keep hb hk
  replace hw := b_next hw hb
  obtain ⟨k0, k1, k2, k3, k4, k5, k6⟩ := hk
  clear hb
  go_wp2_with fail
  all_goals go_ret2
  all_goals exact ⟨ret2 (by omega) rfl, hw⟩
set_option maxHeartbeats 1000000 in
theorem prof_no (s : ByteArray) (wake ceil climb desc slow fast height total t : Int) (w : World) (K : Hid (KindC s wake ceil climb desc slow fast 0))
   (b : ceil < height ∨ height < 0 ∨ 60000 < height ∨ total < 0 ∨ 200000 < total ∨ t < 0 ∨ total < t) :
    Calls Tryd.prog 46 #[.agg #[.string s, .int .i64 wake, .int .i64 ceil, .int .i64 climb, .int .i64 desc, .int .i64 slow, .int .i64 fast], .int .i64 height, .int .i64 total, .int .i64 t] w fun e w' => e = .returned (.tuple #[.int .i64 0, .int .i64 (if ceil < height then 20 else 4)]) ∧ Below w.heap.size w w' := by
  go_enter Tryd.func46, Tryd.ntmps46
  have hk := k7_new w 56 s wake ceil climb desc slow fast
  have hw := b_alloc (Below.refl w.heap.size w) (.cells #[.string s, .int .i64 wake, .int .i64 ceil, .int .i64 climb, .int .i64 desc, .int .i64 slow, .int .i64 fast] 56)
  go_wp2_with fail
  refine (K.out _).mono ?_; rintro e w1 ⟨rfl, hb⟩
  replace hk := k7_keep hb hk
  replace hw := b_next hw hb
  obtain ⟨k0, k1, k2, k3, k4, k5, k6⟩ := hk
  clear hb
  go_wp2_with fail
  all_goals first | (exfalso; omega) | (go_ret2; exact ⟨ret2 rfl (by first | rfl | omega | (split <;> omega)), hw⟩)
set_option maxHeartbeats 1000000 in
theorem prof_bad (s : ByteArray) (wake ceil climb desc slow fast height total t E : Int) (w : World) (K : Hid (KindC s wake ceil climb desc slow fast E)) (_hE1 : (E == 0) = false) (hE2 : (E != 0) = true) :
    Calls Tryd.prog 46 #[.agg #[.string s, .int .i64 wake, .int .i64 ceil, .int .i64 climb, .int .i64 desc, .int .i64 slow, .int .i64 fast], .int .i64 height, .int .i64 total, .int .i64 t] w fun e w' => e = .returned (.tuple #[.int .i64 0, .int .i64 E]) ∧ Below w.heap.size w w' := by
  go_enter Tryd.func46, Tryd.ntmps46
  have hk := k7_new w 56 s wake ceil climb desc slow fast
  have hw := b_alloc (Below.refl w.heap.size w) (.cells #[.string s, .int .i64 wake, .int .i64 ceil, .int .i64 climb, .int .i64 desc, .int .i64 slow, .int .i64 fast] 56)
  go_wp2_with fail
  refine (K.out _).mono ?_; rintro e w1 ⟨rfl, hb⟩
  replace hk := k7_keep hb hk
  replace hw := b_next hw hb
  obtain ⟨k0, k1, k2, k3, k4, k5, k6⟩ := hk
  clear hb
  go_wp2_with fail
  all_goals (go_ret2; exact ⟨ret2 rfl rfl, hw⟩)
/-- fly.Profile's answer. -/
def profE (s : ByteArray) (wake ceil climb desc slow fast height total t : Int) : Int × Int :=
  if kchk s wake ceil climb desc slow fast = 0 then prof ceil climb desc height total t else (0, kchk s wake ceil climb desc slow fast)
theorem kchk_ok {s : ByteArray} {wake ceil climb desc slow fast : Int} (h : kchk s wake ceil climb desc slow fast = 0) :
    nameB s = true ∧ (0 ≤ wake ∧ wake ≤ 3) ∧ (1 ≤ ceil ∧ ceil ≤ 60000) ∧ (1 ≤ climb ∧ climb ≤ 200) ∧ (1 ≤ desc ∧ desc ≤ 200) ∧ (1 ≤ slow ∧ slow ≤ 400) ∧ (1 ≤ fast ∧ fast ≤ 400) ∧ slow ≤ fast := by
  unfold kchk outB at h
  simp only [decide_eq_true_eq] at h
  split at h
  · omega
  · rename_i h0
    split at h
    · omega
    · split at h
      · omega
      · split at h
        · omega
        · exact ⟨by simpa using h0, by omega, by omega, by omega, by omega, by omega, by omega, by omega⟩
theorem profC (s : ByteArray) (wake ceil climb desc slow fast height total t : Int) (w : World) :
    Calls Tryd.prog 46 #[.agg #[.string s, .int .i64 wake, .int .i64 ceil, .int .i64 climb, .int .i64 desc, .int .i64 slow, .int .i64 fast], .int .i64 height, .int .i64 total, .int .i64 t] w fun e w' => e = .returned (.tuple #[.int .i64 (profE s wake ceil climb desc slow fast height total t).1, .int .i64 (profE s wake ceil climb desc slow fast height total t).2]) ∧ Below w.heap.size w w' := by
  have K : KindC s wake ceil climb desc slow fast (kchk s wake ceil climb desc slow fast) := fun w => kindC s wake ceil climb desc slow fast w
  by_cases hE : kchk s wake ceil climb desc slow fast = 0
  · obtain ⟨-, -, a1, a2, a3, -⟩ := kchk_ok hE
    rw [hE] at K
    unfold profE
    rw [if_pos hE]
    unfold prof
    by_cases b : ceil < height ∨ height < 0 ∨ 60000 < height ∨ total < 0 ∨ 200000 < total ∨ t < 0 ∨ total < t
    · refine (prof_no s wake ceil climb desc slow fast height total t w (Lib.hid K) b).mono ?_
      rintro e w' ⟨rfl, hb⟩
      refine ⟨?_, hb⟩
      by_cases c : ceil < height
      · rw [if_pos c, if_pos c]
      · rw [if_neg c, if_neg c, if_pos (by omega)]
    · rw [if_neg (by omega), if_neg (by omega)]
      exact prof_ok s wake ceil climb desc slow fast height total t w (Lib.hid K) a2 a3 (by omega) (by omega) (by omega) (by omega) (by omega) (by omega) (by omega)
  · unfold profE
    rw [if_neg hE]
    exact prof_bad s wake ceil climb desc slow fast height total t _ w (Lib.hid K) (by simpa using hE) (by simpa using hE)
end Kind
end Go.Proofs.YtkapllakofndlaaDoor
namespace Go.Proofs.YtkapllakofndlaaDoor
open Go.RowKit
namespace Wind
open Kit
/-- A band in memory. -/
structure N5 (w : World) (b o : Nat) (l h x y e : Int) : Prop where
  c0 : w.cell? ⟨b, o, none⟩ = some (.int .i64 l)
  c1 : w.cell? ⟨b, o + 1, none⟩ = some (.int .i64 h)
  c2 : w.cell? ⟨b, o + 2, none⟩ = some (.int .i64 x)
  c3 : w.cell? ⟨b, o + 3, none⟩ = some (.int .i64 y)
  c4 : w.cell? ⟨b, o + 4, none⟩ = some (.int .i64 e)
theorem n5_keep {W w1 : World} (hb : Below W.heap.size W w1) {b o : Nat} {l h x y e : Int} (n : N5 W b o l h x y e) : N5 w1 b o l h x y e := ⟨keep hb n.c0, keep hb n.c1, keep hb n.c2, keep hb n.c3, keep hb n.c4⟩
theorem n5_new (w : World) (t : TypeId) (l h x y e : Int) : N5 (w.alloc (.cells #[.int .i64 l, .int .i64 h, .int .i64 x, .int .i64 y, .int .i64 e] t)) w.heap.size 0 l h x y e := ⟨by simp, by simp, by simp, by simp, by simp⟩
/-- A slice of bands in memory. -/
def WV (w : World) (v : Value) (n : Nat) (L H X Y E : Nat → Int) : Prop :=
  (n = 0 ∧ (v = .slice none 0 0 ∨ ∃ a cap, v = .slice (some a) 0 cap ∧ cap ≤ maxLen)) ∨ (0 < n ∧ ∃ b off cap, v = .slice (some ⟨b, off, none⟩) n cap ∧ n ≤ cap ∧ cap ≤ maxLen ∧ ∀ k, k < n → N5 w b (off + k * 5) (L k) (H k) (X k) (Y k) (E k))
theorem wv_keep {W w1 : World} (hb : Below W.heap.size W w1) {v : Value} {n : Nat} {L H X Y E : Nat → Int} (h : WV W v n L H X Y E) : WV w1 v n L H X Y E := by
  rcases h with h | ⟨h0, b, off, cap, hv, h1, h2, h3⟩
  · exact Or.inl h
  · exact Or.inr ⟨h0, b, off, cap, hv, h1, h2, fun k hk => n5_keep hb (h3 k hk)⟩
def outB (n : Int) : Bool := decide (n < -150 ∨ 150 < n)
abbrev OuC (n : Int) (b : Bool) : Prop := ∀ w, Calls Tryd.prog 73 #[.int .i64 n] w fun e w' => e = .returned (.bool b) ∧ w = w'
theorem out_w (n : Int) : OuC n (outB n) := fun w => by
  unfold outB
  by_cases h1 : n < -150
  · rw [decide_eq_true (Or.inl h1)]
    have q := decide_eq_true h1
    go_enter Tryd.func73, Tryd.ntmps73
    go_wp2
    all_goals first | (exfalso; omega) | (go_ret; exact ⟨by first | rfl | trivial, rfl⟩)
  · by_cases h2 : 150 < n
    · rw [decide_eq_true (Or.inr h2)]
      have q := decide_eq_false h1; have q2 := decide_eq_true h2
      go_enter Tryd.func73, Tryd.ntmps73
      go_wp2
      all_goals first | (exfalso; omega) | (go_ret; exact ⟨by first | rfl | trivial | exact retb (by simp; omega), rfl⟩)
    · rw [decide_eq_false (by omega)]
      have q := decide_eq_false h1; have q2 := decide_eq_false h2
      go_enter Tryd.func73, Tryd.ntmps73
      go_wp2
      all_goals first | (exfalso; omega) | (go_ret; exact ⟨by first | rfl | trivial | exact retb (by simp; omega), rfl⟩)
section
variable (L H X Y E : Nat → Int)
/-- What wind.Check says of band i. -/
def werr (i : Nat) : Int := if (L i < 0 ∨ 60001 < H i ∨ H i ≤ L i) ∨ outB (X i) = true ∨ outB (Y i) = true ∨ (E i < 0 ∨ 100 < E i) then 4 else if 0 < i ∧ L i < H (i - 1) then 3 else 0
def wchk : Nat → Int
  | 0 => 0
  | k + 1 => if wchk k ≠ 0 then wchk k else werr L H X Y E k
/-- wind.Check's error. -/
def wck (n : Nat) : Int := if 16 < n then 2 else wchk L H X Y E n
variable {L H X Y E}
theorem wchk_stays {k : Nat} (h : wchk L H X Y E k ≠ 0) : ∀ m, k ≤ m → wchk L H X Y E m = wchk L H X Y E k := by
  intro m
  induction m with
  | zero => intro hk; rw [show k = 0 from by omega]
  | succ m ih =>
    intro hk
    rcases Nat.lt_or_ge m k with hl | hl
    · rw [show m + 1 = k from by omega]
    · have e := ih hl
      show (if wchk L H X Y E m ≠ 0 then _ else _) = _
      rw [if_pos (by rw [e]; exact h), e]
theorem wchk_step {k : Nat} (h : wchk L H X Y E k = 0) : wchk L H X Y E (k + 1) = werr L H X Y E k := by
  show (if wchk L H X Y E k ≠ 0 then _ else _) = _
  rw [if_neg (fun e => e h)]
theorem wchk_stop {k n : Nat} (hk : k < n) (h : wchk L H X Y E k = 0) (he : werr L H X Y E k ≠ 0) : wchk L H X Y E n = werr L H X Y E k := by
  have e := wchk_step h
  rw [wchk_stays (k := k + 1) (by rw [e]; exact he) n hk, e]
end
set_option maxRecDepth 100000 in
set_option maxHeartbeats 4000000 in
theorem check_w (n cap b off : Nat) (L H X Y E : Nat → Int) (w : World) (_h0 : 0 < n) (hn : n ≤ 16) (hc : n ≤ cap) (hm : cap ≤ 9223372036854775807) (HV : Hid (∀ k, k < n → N5 w b (off + k * 5) (L k) (H k) (X k) (Y k) (E k))) :
    Calls Tryd.prog 39 #[.slice (some ⟨b, off, none⟩) n cap] w fun e w' => e = .returned (.int .i64 (wchk L H X Y E n)) ∧ Below w.heap.size w w' := by
  obtain ⟨R, hR⟩ : ∃ R, R = wchk L H X Y E n := ⟨_, rfl⟩
  rw [← hR]
  have HR := Lib.hid hR; clear hR
  go_enter Tryd.func39, Tryd.ntmps39
  go_wp2_with fail
  go_loopw [11] (fun s wr => ∃ k : Nat, k ≤ n ∧ s = .int .i64 k ∧ wchk L H X Y E k = 0 ∧ Below w.heap.size w wr) (fun s _ => n - (intOf s).toNat)
  case atStart => exact ⟨0, Nat.zero_le _, rfl, rfl, Below.refl _ _⟩
  case round =>
    obtain ⟨k, hk, rfl, hz, hbl⟩ := hrel
    have HZ := Lib.hid hz; have WR := Lib.hid hbl; clear hz
    by_cases hlt : k < n
    · have hl : (k : Int) < (n : Int) := by omega
      obtain ⟨c0, c1, c2, c3, c4⟩ := n5_keep hbl (HV.out k hlt)
      have PN := Lib.hid (n5_new wr 38 (L k) (H k) (X k) (Y k) (E k))
      have W1 := Lib.hid (b_alloc WR.out (.cells #[.int .i64 (L k), .int .i64 (H k), .int .i64 (X k), .int .i64 (Y k), .int .i64 (E k)] 38))
      have BAD : Hid (werr L H X Y E k ≠ 0 → R = werr L H X Y E k) := Lib.hid fun h => by rw [HR.out]; exact wchk_stop hlt HZ.out h
      have NXT : Hid (werr L H X Y E k = 0 → wchk L H X Y E (k + 1) = 0) := Lib.hid fun h => by rw [wchk_step HZ.out, h]
      have PRE : Hid (0 < k → w.cell? ⟨b, off + (k - 1) * 5 + 1, none⟩ = some (.int .i64 (H (k - 1)))) := Lib.hid fun h => (HV.out (k - 1) (by omega)).c1
      have OX := Lib.hid (out_w (X k)); have OY := Lib.hid (out_w (Y k))
      obtain ⟨v, hv⟩ : ∃ v, v = werr L H X Y E k := ⟨_, rfl⟩
      rw [← hv] at BAD NXT
      unfold werr at hv
      obtain ⟨ph, hph⟩ : ∃ ph, ph = H (k - 1) := ⟨_, rfl⟩
      rw [← hph] at hv PRE
      generalize L k = l at *
      generalize H k = h at *
      generalize X k = x at *
      generalize Y k = y at *
      generalize E k = e at *
      generalize outB x = ox at *
      generalize outB y = oy at *
      have HE := Lib.hid hv; clear hv hph hbl
      by_cases p1 : l < 0 ∨ 60001 < h ∨ h ≤ l
      · have q := HE.out
        rw [if_pos (Or.inl p1)] at q
        have HB := Lib.hid (BAD.out (by rw [q]; decide))
        rw [q] at HB
        have e2 := HB.out
        subst e2
        clear q HE BAD NXT
        go_wp2_with fail
        all_goals first | (exfalso; omega) | (go_ret; exact ⟨rfl, W1.out⟩)
      · have n1 : ¬ l < 0 := by omega
        have n2 : ¬ 60001 < h := by omega
        have n3 : ¬ h ≤ l := by omega
        go_wp2_with fail
        (with_reducible refine (OX.out _).mono ?_); rintro ed v0 ⟨rfl, rfl⟩
        cases ox with
        | true =>
          have q := HE.out
          rw [if_pos (Or.inr (Or.inl rfl))] at q
          have HB := Lib.hid (BAD.out (by rw [q]; decide))
          rw [q] at HB
          have e2 := HB.out
          subst e2
          clear q HE BAD NXT
          go_wp2_with fail
          all_goals first | (exfalso; omega) | (go_ret; exact ⟨rfl, W1.out⟩)
        | false =>
          go_wp2_with fail
          (with_reducible refine (OY.out _).mono ?_); rintro ed v0 ⟨rfl, rfl⟩
          cases oy with
          | true =>
            have q := HE.out
            rw [if_pos (Or.inr (Or.inr (Or.inl rfl)))] at q
            have HB := Lib.hid (BAD.out (by rw [q]; decide))
            rw [q] at HB
            have e2 := HB.out
            subst e2
            clear q HE BAD NXT
            go_wp2_with fail
            all_goals first | (exfalso; omega) | (go_ret; exact ⟨rfl, W1.out⟩)
          | false =>
            by_cases p2 : e < 0 ∨ 100 < e
            · have q := HE.out
              rw [if_pos (Or.inr (Or.inr (Or.inr p2)))] at q
              have HB := Lib.hid (BAD.out (by rw [q]; decide))
              rw [q] at HB
              have e2 := HB.out
              subst e2
              clear q HE BAD NXT
              go_wp2_with fail
              all_goals first | (exfalso; omega) | (go_ret; exact ⟨rfl, W1.out⟩)
            · have m1 : ¬ e < 0 := by omega
              have m2 : ¬ 100 < e := by omega
              have q := HE.out
              rw [if_neg (fun h => by rcases h with h | h | h | h <;> first | exact p1 h | exact p2 h | cases h)] at q
              have HE2 := Lib.hid q; clear q HE
              by_cases p3 : 0 < k
              · have PH := Lib.hid (keep W1.out (PRE.out p3))
                obtain ⟨j, hj⟩ : ∃ j, j = k - 1 := ⟨_, rfl⟩
                rw [← hj] at PH
                have u0 : (j : Int) < (n : Int) := by omega
                have u1 : IntKind.i64.wrap ((k : Int) - 1) = (j : Int) := by rw [IntWalk.i64_in _ (by omega)]; omega
                have u2 : (k : Int) - 1 = (j : Int) := by omega
                have u4 : IntKind.i64.wrap (j : Int) = (j : Int) := IntWalk.i64_in _ (by omega)
                have u5 : 0 < (k : Int) := by omega
                have u6 := decide_eq_true u5
                have u7 := decide_eq_true p3
                clear hj
                by_cases p4 : l < ph
                · have q := HE2.out
                  rw [if_pos ⟨p3, p4⟩] at q
                  have HB := Lib.hid (BAD.out (by rw [q]; decide))
                  rw [q] at HB
                  have e2 := HB.out
                  subst e2
                  have q4 := decide_eq_true p4
                  clear q HE2 BAD NXT
                  go_wp2_with fail
                  refine d_region (by kernel_rfl) (by kernel_rfl) ?_
                  repeat
                    first
                      | (refine d_plain (by with_reducible rfl) ?_; apply Exists.intro; refine ⟨fun wq hc hq => ?_, ?_⟩)
                      | (refine d_on (by with_reducible rfl) (by rfl) (by with_reducible rfl) ?_; apply Exists.intro; refine ⟨fun wq hc hq => ?_, ?_⟩)
                      | (refine d_off (by with_reducible rfl) (by rfl) (by rfl) ?_)
                      | (refine d_void (by with_reducible rfl) (by rfl) ?_)
                    try any_goals
                      (obtain ⟨q0, q1, q2, q3, q4⟩ := n5_keep (cls hq) PN.out; have q5 := keep (cls hq) PH.out; clear hc
                       go_simp
                       first
                         | rfl)
                    simp only [Act.put, List.setIfInBounds_toArray, List.set_cons_zero, List.set_cons_succ]
                  refine d_nil ?_
                  intro w7 hb7
                  have W7 := Lib.hid (b_next W1.out hb7); clear hb7
                  go_wp2_with fail
                  all_goals first | (exfalso; omega) | (go_ret; exact ⟨rfl, W7.out⟩)
                · have q := HE2.out
                  rw [if_neg (fun h => p4 h.2)] at q
                  have NX := Lib.hid (NXT.out q)
                  have q4 := decide_eq_false p4
                  clear q HE2 BAD NXT
                  go_wp2_with fail
                  refine d_region (by kernel_rfl) (by kernel_rfl) ?_
                  repeat
                    first
                      | (refine d_plain (by with_reducible rfl) ?_; apply Exists.intro; refine ⟨fun wq hc hq => ?_, ?_⟩)
                      | (refine d_on (by with_reducible rfl) (by rfl) (by with_reducible rfl) ?_; apply Exists.intro; refine ⟨fun wq hc hq => ?_, ?_⟩)
                      | (refine d_off (by with_reducible rfl) (by rfl) (by rfl) ?_)
                      | (refine d_void (by with_reducible rfl) (by rfl) ?_)
                    try any_goals
                      (obtain ⟨q0, q1, q2, q3, q4⟩ := n5_keep (cls hq) PN.out; have q5 := keep (cls hq) PH.out; clear hc
                       go_simp
                       first
                         | rfl)
                    simp only [Act.put, List.setIfInBounds_toArray, List.set_cons_zero, List.set_cons_succ]
                  refine d_nil ?_
                  intro w7 hb7
                  have W7 := Lib.hid (b_next W1.out hb7); clear hb7
                  go_wp2_with fail
                  all_goals first | (exfalso; omega) | exact ⟨⟨k + 1, by omega, by go_num, NX.out, W7.out⟩, by simp [intOf]; omega⟩
              · have q := HE2.out
                rw [if_neg (fun h => p3 h.1)] at q
                have NX := Lib.hid (NXT.out q)
                have hk0 : k = 0 := by omega
                subst hk0
                clear q HE2 BAD NXT
                go_wp2_with fail
                refine d_region (by kernel_rfl) (by kernel_rfl) ?_
                repeat
                  first
                    | (refine d_plain (by with_reducible rfl) ?_; apply Exists.intro; refine ⟨fun wq hc hq => ?_, ?_⟩)
                    | (refine d_on (by with_reducible rfl) (by rfl) (by with_reducible rfl) ?_; apply Exists.intro; refine ⟨fun wq hc hq => ?_, ?_⟩)
                    | (refine d_off (by with_reducible rfl) (by rfl) (by rfl) ?_)
                    | (refine d_void (by with_reducible rfl) (by rfl) ?_)
                  try any_goals
                    (obtain ⟨q0, q1, q2, q3, q4⟩ := n5_keep (cls hq) PN.out; clear hc
                     go_simp
                     first
                       | rfl)
                  simp only [Act.put, List.setIfInBounds_toArray, List.set_cons_zero, List.set_cons_succ]
                refine d_nil ?_
                intro w7 hb7
                have W7 := Lib.hid (b_next W1.out hb7); clear hb7
                go_wp2_with fail
                all_goals first | (exfalso; omega) | exact ⟨⟨0 + 1, by omega, by go_num, NX.out, W7.out⟩, by simp [intOf]; omega⟩
    · have hkn : k = n := by omega
      have hl : ¬ (k : Int) < (n : Int) := by omega
      have HF : Hid (R = 0) := Lib.hid (by rw [HR.out, ← hkn]; exact HZ.out)
      have e := HF.out
      subst e
      clear hbl
      go_wp2_with fail
      go_ret
      exact ⟨rfl, WR.out⟩
end Wind
end Go.Proofs.YtkapllakofndlaaDoor
