/- PolygonMeets: a segment meets a polygon if one of its ends lies in it, and not if the whole polygon lies on one side of its line; the order of the ends does not matter. For every input. -/
import Derived.Test.YtlgdcpkjobbnnaaPolyWorks
import Derived.Test.YtlgdcpkjobbnnaaPolyJ
namespace Go.Proofs.Ytlgdcpkjobbnnaa
open Go.RowKit Go.ChangeShapes Go.WideShapes
namespace PolygonMeets
open Kit Plane Poly
section
variable {n : Nat} {X Y : Nat → Int} {ax ay bx by' : Int}
theorem mee_back : mee n X Y bx by' ax ay n = mee n X Y ax ay bx by' n := by
  have key : ∀ m, mee n X Y bx by' ax ay m = mee n X Y ax ay bx by' m := by
    intro m
    induction m with
    | zero => rfl
    | succ m ih =>
      show (mee n X Y bx by' ax ay m || _) = (mee n X Y ax ay bx by' m || _)
      rw [ih, J.common_one (X m) (Y m) (X (nx n m)) (Y (nx n m)) ax ay bx by']
  exact key n
theorem mee_in (ha : place n X Y ax ay < 0) (hb : 0 ≤ place n X Y bx by') : mee n X Y ax ay bx by' n = true := by
  cases h : mee n X Y ax ay bx by' n with
  | true => rfl
  | false => have := place_par (mee_no h); omega
theorem mee_same (h0 : 0 < n) (ha : place n X Y ax ay < 0) : mee n X Y ax ay ax ay n = false := by
  refine mee_of fun k hk => ?_
  have ho : ∀ j, j < n → onB (X j) (Y j) (X (nx n j)) (Y (nx n j)) ax ay = false := fun j hj => by
    cases h : onB (X j) (Y j) (X (nx n j)) (Y (nx n j)) ax ay with
    | false => rfl
    | true =>
      unfold place at ha
      rw [if_pos (on_stop h n hj)] at ha
      exact absurd ha (by decide)
  have hs : ∀ j, j < n → ¬ (X j = ax ∧ Y j = ay) := fun j hj he => by
    have h1 := ho j hj
    have h2 := J.on_end (X j) (Y j) (X (nx n j)) (Y (nx n j))
    rw [← he.1, ← he.2] at h1
    rw [h2] at h1; cases h1
  have hz : ∀ j, j < n → onB ax ay ax ay (X j) (Y j) = false := fun j hj => by
    cases h : onB ax ay ax ay (X j) (Y j) with
    | false => rfl
    | true =>
      unfold onB btw at h
      rw [Bool.and_eq_true, decide_eq_true_eq, decide_eq_true_eq] at h
      exact absurd (show X j = ax ∧ Y j = ay by omega) (hs j hj)
  unfold commonB
  have hc : crossB (X k) (Y k) (X (nx n k)) (Y (nx n k)) ax ay ax ay = false := by
    cases h : crossB (X k) (Y k) (X (nx n k)) (Y (nx n k)) ax ay ax ay with
    | false => rfl
    | true => have := crossB_iff.1 h; omega
  rw [hc, ho k hk, hz k hk, hz _ (nx_lt h0)]
  rfl
theorem mee_side (s : Int) (hs : s = 1 ∨ s = -1) (h0 : 0 < n) (ha : place n X Y ax ay < 0) (hb : place n X Y bx by' < 0) (h : ∀ k, k < n → sgn (crs ax ay bx by' (X k) (Y k)) = s) : mee n X Y ax ay bx by' n = false := by
  refine mee_of fun k hk => ?_
  have ho : ∀ qx qy, place n X Y qx qy < 0 → onB (X k) (Y k) (X (nx n k)) (Y (nx n k)) qx qy = false := fun qx qy ha => by
    cases h : onB (X k) (Y k) (X (nx n k)) (Y (nx n k)) qx qy with
    | false => rfl
    | true =>
      unfold place at ha
      rw [if_pos (on_stop h n hk)] at ha
      exact absurd ha (by decide)
  have hz : ∀ j, j < n → onB ax ay bx by' (X j) (Y j) = false := fun j hj => by
    unfold onB
    rw [decide_eq_false (fun hh => ?_), Bool.false_and]
    have := h j hj
    rw [sgn_zero hh] at this
    omega
  have hc : crossB (X k) (Y k) (X (nx n k)) (Y (nx n k)) ax ay bx by' = false := by
    unfold crossB
    rw [h k hk, h _ (nx_lt h0), Bool.and_eq_false_iff]
    refine Or.inr (decide_eq_false ?_)
    rcases hs with rfl | rfl <;> decide
  unfold commonB
  rw [hc, ho _ _ ha, ho _ _ hb, hz k hk, hz _ (nx_lt h0)]
  rfl
/-- How many of the first k vertices have the turn s. -/
def cnt (X Y : Nat → Int) (ax ay bx by' s : Int) : Nat → Nat
  | 0 => 0
  | k + 1 => if sgn (crs ax ay bx by' (X k) (Y k)) = s then cnt X Y ax ay bx by' s k + 1 else cnt X Y ax ay bx by' s k
theorem cnt_le (s : Int) : ∀ k, cnt X Y ax ay bx by' s k ≤ k
  | 0 => Nat.le_refl _
  | k + 1 => by
    have h := cnt_le s k
    show (if sgn (crs ax ay bx by' (X k) (Y k)) = s then cnt X Y ax ay bx by' s k + 1 else cnt X Y ax ay bx by' s k) ≤ k + 1
    by_cases hc : sgn (crs ax ay bx by' (X k) (Y k)) = s
    · rw [if_pos hc]; omega
    · rw [if_neg hc]; omega
theorem cnt_full (s : Int) : ∀ k, cnt X Y ax ay bx by' s k = k → ∀ j, j < k → sgn (crs ax ay bx by' (X j) (Y j)) = s
  | 0, _, j, hj => by omega
  | k + 1, h, j, hj => by
    have hle := cnt_le (X := X) (Y := Y) (ax := ax) (ay := ay) (bx := bx) (by' := by') s k
    have h' : (if sgn (crs ax ay bx by' (X k) (Y k)) = s then cnt X Y ax ay bx by' s k + 1 else cnt X Y ax ay bx by' s k) = k + 1 := h
    by_cases hc : sgn (crs ax ay bx by' (X k) (Y k)) = s
    · rw [if_pos hc] at h'
      rcases Nat.lt_or_ge j k with hl | hl
      · exact cnt_full s k (by omega) j hl
      · rw [show j = k from by omega]; exact hc
    · rw [if_neg hc] at h'; omega
end
abbrev MeC (v : Value) (ax ay bx by' : Int) (B : Bool) (E : Int) (w : World) : Prop := ∀ w1, Below w.heap.size w w1 → Calls Try.prog 22 #[v, .agg #[.int .i64 ax, .int .i64 ay], .agg #[.int .i64 bx, .int .i64 by']] w1 fun e w' => e = .returned (.tuple #[.bool B, .int .i64 E]) ∧ Below w1.heap.size w1 w'
abbrev LoC (v : Value) (qx qy p : Int) (w : World) : Prop := ∀ w1, Below w.heap.size w w1 → Calls Try.prog 19 #[v, .agg #[.int .i64 qx, .int .i64 qy]] w1 fun e w' => e = .returned (.tuple #[.int .i64 p, .int .i64 0]) ∧ Below w1.heap.size w1 w'
theorem p2_second (w : World) (t t' : TypeId) (x y x' y' : Int) : P2 ((w.alloc (.cells #[.int .i64 x, .int .i64 y] t)).alloc (.cells #[.int .i64 x', .int .i64 y'] t')) (w.heap.size + 1) x' y' := by
  have h := p2_new (w.alloc (.cells #[.int .i64 x, .int .i64 y] t)) t' x' y'
  rw [World.size_alloc] at h; exact h
set_option maxHeartbeats 2000000 in
theorem bad (v : Value) (ax ay bx by' E : Int) (w : World) (M : Hid (MeC v ax ay bx by' false E w)) (_hE1 : (E == 0) = false) (hE2 : (E != 0) = true) :
    Calls Try.prog 6 #[v, .agg #[.int .i64 ax, .int .i64 ay], .agg #[.int .i64 bx, .int .i64 by']] w fun e w' => e = .returned (.bool true) ∧ Below w.heap.size w w' := by
  have P1 := Lib.hid (p2_keep (b_alloc (Below.refl _ _) (.cells #[.int .i64 bx, .int .i64 by'] 23)) (p2_new w 23 ax ay))
  have P2' := Lib.hid (p2_second w 23 23 ax ay bx by')
  have HW := Lib.hid (b_alloc (b_alloc (Below.refl w.heap.size w) (.cells #[.int .i64 ax, .int .i64 ay] 23)) (.cells #[.int .i64 bx, .int .i64 by'] 23))
  go_enter Try.func6, Try.ntmps6
  go_wp2_with fail
  refine (polygonWorks _).mono ?_; rintro e w1 ⟨rfl, hb⟩
  have W1 := Lib.hid (b_next HW.out hb); obtain ⟨p0, p1⟩ := p2_keep hb P1.out; obtain ⟨q0, q1⟩ := p2_keep hb P2'.out; clear hb
  go_wp2_with fail
  (with_reducible refine (M.out _ W1.out).mono ?_); rintro e w2 ⟨rfl, hb⟩
  have W2 := Lib.hid (b_next W1.out hb); clear hb
  go_wp2_with fail
  all_goals (go_ret; exact ⟨by first | rfl | exact retb rfl, W2.out⟩)
set_option maxHeartbeats 4000000 in
theorem ok (n cap b off : Nat) (X Y : Nat → Int) (ax ay bx by' m p : Int) (B : Bool) (w : World) (h0 : 0 < n) (hc : n ≤ cap) (hm : cap ≤ 9223372036854775807) (HV : Hid (∀ k, k < n → E2 w b off k (X k) (Y k)))
    (M : Hid (MeC (.slice (some ⟨b, off, none⟩) n cap) ax ay bx by' B 0 w)) (L1 : Hid (LoC (.slice (some ⟨b, off, none⟩) n cap) ax ay m w)) (L2 : Hid (LoC (.slice (some ⟨b, off, none⟩) n cap) bx by' p w)) (M2 : Hid (MeC (.slice (some ⟨b, off, none⟩) n cap) bx by' ax ay B 0 w))
    (hin : 0 ≤ m ∨ 0 ≤ p → B = true) (T : Hid (∀ k, k < n → TuC ax ay bx by' (X k) (Y k) (sgn (crs ax ay bx by' (X k) (Y k)))))
    (hs : m < 0 → p < 0 → ax = bx → ay = by' → B = false) (HS : Hid (m < 0 → p < 0 → B = true → cnt X Y ax ay bx by' 1 n < n ∧ cnt X Y ax ay bx by' (-1) n < n)) :
    Calls Try.prog 6 #[.slice (some ⟨b, off, none⟩) n cap, .agg #[.int .i64 ax, .int .i64 ay], .agg #[.int .i64 bx, .int .i64 by']] w fun e w' => e = .returned (.bool true) ∧ Below w.heap.size w w' := by
  have P1 := Lib.hid (p2_keep (b_alloc (Below.refl _ _) (.cells #[.int .i64 bx, .int .i64 by'] 23)) (p2_new w 23 ax ay))
  have P2' := Lib.hid (p2_second w 23 23 ax ay bx by')
  have HW := Lib.hid (b_alloc (b_alloc (Below.refl w.heap.size w) (.cells #[.int .i64 ax, .int .i64 ay] 23)) (.cells #[.int .i64 bx, .int .i64 by'] 23))
  go_enter Try.func6, Try.ntmps6
  go_wp2_with fail
  refine (polygonWorks _).mono ?_; rintro e w1 ⟨rfl, hb⟩
  have W1 := Lib.hid (b_next HW.out hb); have A1 := Lib.hid (p2_keep hb P1.out); have B1 := Lib.hid (p2_keep hb P2'.out); clear hb
  obtain ⟨p0, p1⟩ := A1.out; obtain ⟨q0, q1⟩ := B1.out
  go_wp2_with fail
  (with_reducible refine (M.out _ W1.out).mono ?_); rintro e w2 ⟨rfl, hb⟩
  have W2 := Lib.hid (b_next W1.out hb); have A2 := Lib.hid (p2_keep hb A1.out); have B2 := Lib.hid (p2_keep hb B1.out); clear hb p0 p1 q0 q1
  obtain ⟨p0, p1⟩ := A2.out; obtain ⟨q0, q1⟩ := B2.out
  go_wp2_with fail
  (with_reducible refine (L1.out _ W2.out).mono ?_); rintro e w3 ⟨rfl, hb⟩
  have W3 := Lib.hid (b_next W2.out hb); have A3 := Lib.hid (p2_keep hb A2.out); have B3 := Lib.hid (p2_keep hb B2.out); clear hb p0 p1 q0 q1
  obtain ⟨p0, p1⟩ := A3.out; obtain ⟨q0, q1⟩ := B3.out
  go_wp2_with fail
  (with_reducible refine (L2.out _ W3.out).mono ?_); rintro e w4 ⟨rfl, hb⟩
  have W4 := Lib.hid (b_next W3.out hb); have A4 := Lib.hid (p2_keep hb A3.out); have B4 := Lib.hid (p2_keep hb B3.out); clear hb p0 p1 q0 q1
  obtain ⟨p0, p1⟩ := A4.out; obtain ⟨q0, q1⟩ := B4.out
  go_wp2_with fail
  (with_reducible refine (M2.out _ W4.out).mono ?_); rintro e w5 ⟨rfl, hb⟩
  have W5 := Lib.hid (b_next W4.out hb); have A5 := Lib.hid (p2_keep hb A4.out); have B5 := Lib.hid (p2_keep hb B4.out); clear hb p0 p1 q0 q1
  by_cases hi : 0 ≤ m ∨ 0 ≤ p
  · obtain rfl := hin hi
    by_cases hi1 : 0 ≤ m
    · go_wp2_with fail
      all_goals (go_ret; exact ⟨by first | rfl | exact retb rfl, W5.out⟩)
    · have hi2 : 0 ≤ p := by omega
      go_wp2_with fail
      all_goals (go_ret; exact ⟨by first | rfl | exact retb rfl, W5.out⟩)
  · have hi1 : ¬ 0 ≤ m := by omega
    have hi2 : ¬ 0 ≤ p := by omega
    have HS1 := Lib.hid (HS.out (by omega) (by omega))
    have HS2 := Lib.hid (hs (by omega) (by omega))
    clear hin hs hi
    have bxor : (B != B) = false := by simp
    go_wp2_with fail
    go_loopw [75, 15, 16] (fun s l r wr => ∃ k : Nat, k ≤ n ∧ s = .int .i64 k ∧ l = .int .i64 (cnt X Y ax ay bx by' 1 k : Nat) ∧ r = .int .i64 (cnt X Y ax ay bx by' (-1) k : Nat) ∧ Below w5.heap.size w5 wr) (fun s _ _ _ => n - (intOf s).toNat)
    case atStart => exact ⟨0, Nat.zero_le _, rfl, rfl, rfl, Below.refl _ _⟩
    case round =>
      obtain ⟨k, hk, rfl, rfl, rfl, hbl⟩ := hrel
      have c1 := cnt_le (X := X) (Y := Y) (ax := ax) (ay := ay) (bx := bx) (by' := by') 1 k
      have c2 := cnt_le (X := X) (Y := Y) (ax := ax) (ay := ay) (bx := bx) (by' := by') (-1) k
      have BB := Lib.hid hbl
      have W6 := Lib.hid (b_next W5.out hbl)
      obtain ⟨p0, p1⟩ := p2_keep hbl A5.out; obtain ⟨q0, q1⟩ := p2_keep hbl B5.out
      by_cases hlt : k < n
      · have hl : (k : Int) < (n : Int) := by omega
        obtain ⟨x0, x1⟩ := e2_keep W6.out (HV.out k hlt)
        have TT := Lib.hid (T.out k hlt)
        have N1 : Hid (cnt X Y ax ay bx by' 1 (k + 1) = if sgn (crs ax ay bx by' (X k) (Y k)) = 1 then cnt X Y ax ay bx by' 1 k + 1 else cnt X Y ax ay bx by' 1 k) := Lib.hid rfl
        have N2 : Hid (cnt X Y ax ay bx by' (-1) (k + 1) = if sgn (crs ax ay bx by' (X k) (Y k)) = -1 then cnt X Y ax ay bx by' (-1) k + 1 else cnt X Y ax ay bx by' (-1) k) := Lib.hid rfl
        have n3 := sgn_bd (crs ax ay bx by' (X k) (Y k))
        generalize sgn (crs ax ay bx by' (X k) (Y k)) = s at *
        generalize cnt X Y ax ay bx by' 1 k = l at *
        generalize cnt X Y ax ay bx by' (-1) k = r at *
        have A6 := Lib.hid (And.intro p0 p1); have B6 := Lib.hid (And.intro q0 q1)
        have C6 := Lib.hid (b_next hbl (b_alloc (Below.refl wr.heap.size wr) (.cells #[.int .i64 (X k), .int .i64 (Y k)] 23)))
        have nn := new_ne p0
        have nn2 := new_ne q0
        clear hbl
        go_wp2_with fail
        refine (TT.out _).mono ?_; rintro e w6 ⟨rfl, hb⟩
        have C7 := Lib.hid (b_next C6.out hb); clear hb p0 p1 q0 q1 x0 x1 nn nn2
        by_cases s1 : s = 1
        · have k1 := N1.out; have k2 := N2.out
          rw [if_pos s1] at k1; rw [if_neg (by omega)] at k2
          have K1 := Lib.hid k1; have K2 := Lib.hid k2
          clear k1 k2 N1 N2 TT
          subst s1
          go_wp2_with fail
          exact ⟨⟨k + 1, by omega, by go_num, by rw [K1.out]; go_num, by rw [K2.out], C7.out⟩, by simp [intOf]; omega⟩
        · by_cases s2 : s = -1
          · have k1 := N1.out; have k2 := N2.out
            rw [if_neg s1] at k1; rw [if_pos s2] at k2
            have K1 := Lib.hid k1; have K2 := Lib.hid k2
            clear k1 k2 N1 N2 TT
            subst s2
            go_wp2_with fail
            exact ⟨⟨k + 1, by omega, by go_num, by rw [K1.out], by rw [K2.out]; go_num, C7.out⟩, by simp [intOf]; omega⟩
          · have k1 := N1.out; have k2 := N2.out
            rw [if_neg s1] at k1; rw [if_neg s2] at k2
            have K1 := Lib.hid k1; have K2 := Lib.hid k2
            clear k1 k2 N1 N2 TT
            go_wp2_with fail
            exact ⟨⟨k + 1, by omega, by go_num, by rw [K1.out], by rw [K2.out], C7.out⟩, by simp [intOf]; omega⟩
      · have hin : k = n := by omega
        have hl : ¬ (k : Int) < (n : Int) := by omega
        have h1 := HS1.out
        have h2 := HS2.out
        rw [← hin] at h1
        generalize cnt X Y ax ay bx by' 1 k = l at *
        generalize cnt X Y ax ay bx by' (-1) k = r at *
        clear hbl
        cases B with
        | false =>
          go_wp2_with fail
          all_goals (go_ret; exact ⟨by first | rfl | exact retb rfl, W6.out⟩)
        | true =>
          obtain ⟨h3, h4⟩ := h1 rfl
          have h5 : ¬ (ax = bx ∧ ay = by') := fun h => by cases h2 h.1 h.2
          have h6 : (l : Int) < (n : Int) := by omega
          have h7 : (r : Int) < (n : Int) := by omega
          go_wp2_with fail
          all_goals (go_ret; exact ⟨by first | rfl | exact retb rfl, W6.out⟩)
theorem walk (p : Value) (a_x : Int) (a_y : Int) (b_x : Int) (b_y : Int) (W : World) (h_p : Frame.Okc W (.sl [.int, .int]) p) (_h_a_x : -9223372036854775808 ≤ a_x ∧ a_x ≤ 9223372036854775807) (_h_a_y : -9223372036854775808 ≤ a_y ∧ a_y ≤ 9223372036854775807) (_h_b_x : -9223372036854775808 ≤ b_x ∧ b_x ≤ 9223372036854775807) (_h_b_y : -9223372036854775808 ≤ b_y ∧ b_y ≤ 9223372036854775807) :
    Calls Try.prog 6 #[p, .agg #[.int .i64 a_x, .int .i64 a_y], .agg #[.int .i64 b_x, .int .i64 b_y]] W fun e w' => e = .returned (.bool true) ∧ Below W.heap.size W w' := by
  obtain ⟨n, X, Y, hv, -⟩ := qv_of h_p
  have M1 := fun w1 hb => meetsC (qv_keep (w1 := w1) hb hv) a_x a_y b_x b_y
  have M2 := fun w1 hb => meetsC (qv_keep (w1 := w1) hb hv) b_x b_y a_x a_y
  by_cases hE : (meets n X Y a_x a_y b_x b_y).2 = 0
  · have hp : pck n X Y = 0 := by
      unfold meets at hE
      by_cases h : pck n X Y = 0
      · exact h
      · rw [if_pos h] at hE; exact hE
    have hg : goodB a_x a_y = true ∧ goodB b_x b_y = true := by
      unfold meets at hE
      rw [if_neg (fun h => h hp)] at hE
      cases h1 : goodB a_x a_y <;> cases h2 : goodB b_x b_y <;> rw [h1, h2] at hE <;> simp at hE <;> simp
    obtain ⟨h3, h16, hgv, -, -⟩ := pck_ok hp
    have ga := goodB_iff.1 hg.1; have gb := goodB_iff.1 hg.2
    have L1 := fun w1 hb => locC (qv_keep (w1 := w1) hb hv) a_x a_y
    have L2 := fun w1 hb => locC (qv_keep (w1 := w1) hb hv) b_x b_y
    have el : ∀ qx qy, goodB qx qy = true → loc n X Y qx qy = (place n X Y qx qy, 0) := fun qx qy h => by
      unfold loc; rw [if_neg (fun h => h hp), if_neg (by rw [h]; simp)]
    rw [el _ _ hg.1] at L1; rw [el _ _ hg.2] at L2
    have em : ∀ ax ay bx by', goodB ax ay = true → goodB bx by' = true → meets n X Y ax ay bx by' = if 0 ≤ place n X Y ax ay then (true, 0) else (mee n X Y ax ay bx by' n, 0) := fun ax ay bx by' g1 g2 => by
      unfold meets; rw [if_neg (fun h => h hp), if_neg (by rw [g1, g2]; simp)]
    rw [em _ _ _ _ hg.1 hg.2] at M1; rw [em _ _ _ _ hg.2 hg.1] at M2
    have hB : ∃ B : Bool, (if 0 ≤ place n X Y a_x a_y then (true, (0 : Int)) else (mee n X Y a_x a_y b_x b_y n, 0)) = (B, 0) ∧ (if 0 ≤ place n X Y b_x b_y then (true, (0 : Int)) else (mee n X Y b_x b_y a_x a_y n, 0)) = (B, 0) ∧ (0 ≤ place n X Y a_x a_y ∨ 0 ≤ place n X Y b_x b_y → B = true) ∧ (place n X Y a_x a_y < 0 → place n X Y b_x b_y < 0 → B = mee n X Y a_x a_y b_x b_y n) := by
      by_cases h1 : 0 ≤ place n X Y a_x a_y
      · refine ⟨true, if_pos h1, ?_, fun _ => rfl, fun h => by omega⟩
        by_cases h2 : 0 ≤ place n X Y b_x b_y
        · exact if_pos h2
        · rw [if_neg h2, mee_in (by omega) h1]
      · by_cases h2 : 0 ≤ place n X Y b_x b_y
        · refine ⟨true, ?_, if_pos h2, fun _ => rfl, fun _ h => by omega⟩
          rw [if_neg h1, mee_in (by omega) h2]
        · refine ⟨mee n X Y a_x a_y b_x b_y n, if_neg h1, ?_, fun h => by omega, fun _ _ => rfl⟩
          rw [if_neg h2, mee_back]
    obtain ⟨B, e1, e2, e3, e4⟩ := hB
    rw [e1] at M1; rw [e2] at M2
    rcases hv with ⟨h0', -⟩ | ⟨h0, b, off, cap, rfl, h1, h2, h3'⟩
    · omega
    · have hm := Nat.le_trans h2 (show maxLen ≤ 9223372036854775807 by decide)
      refine ok n cap b off X Y a_x a_y b_x b_y _ _ B W h0 h1 hm (Lib.hid h3') (Lib.hid M1) (Lib.hid L1) (Lib.hid L2) (Lib.hid M2) e3 (Lib.hid fun k hk w => ?_) (fun q1 q2 q3 q4 => ?_) (Lib.hid fun q1 q2 hb => ?_)
      · have g := hgv k hk
        exact turn a_x a_y b_x b_y (X k) (Y k) w rfl (by unfold good at *; omega)
      · rw [e4 q1 q2, ← q3, ← q4]; exact mee_same h0 q1
      · rw [e4 q1 q2] at hb
        have z : ∀ s, s = 1 ∨ s = -1 → cnt X Y a_x a_y b_x b_y s n < n := fun s hs => by
          rcases Nat.lt_or_ge (cnt X Y a_x a_y b_x b_y s n) n with hl | hl
          · exact hl
          · have h5 := mee_side s hs h0 q1 q2 (cnt_full s n (Nat.le_antisymm (cnt_le s n) hl))
            rw [h5] at hb; cases hb
        exact ⟨z 1 (Or.inl rfl), z (-1) (Or.inr rfl)⟩
  · have hB : (meets n X Y a_x a_y b_x b_y).1 = false := by
      unfold meets at hE ⊢
      by_cases h : pck n X Y ≠ 0
      · rw [if_pos h]
      · rw [if_neg h] at hE ⊢
        by_cases h2 : goodB a_x a_y = false ∨ goodB b_x b_y = false
        · rw [if_pos h2]
        · rw [if_neg h2] at hE
          split at hE <;> exact absurd rfl hE
    rw [hB] at M1
    exact bad p a_x a_y b_x b_y _ W (Lib.hid M1) (by simpa using hE) (by simpa using hE)
-- FRAME --

set_option maxRecDepth 100000 in
theorem lifted (os : Os) (started : os.Started) (H : Type) (enc : TypeId × Value → H) :
    ReturnsInHanded {} Try.checked os 6 .any (Rows.polygonMeetsSpec.pre6 enc Try.prog Try.f6 Rows.polygonMeetsRow.domain false) (Rows.polygonMeetsSpec.post enc Try.prog Try.f6 false true false false) :=
  Frame.lifted (C := Try.checked) 6 Try.f6 Try.own started (by kernel_rfl) Try.func6 Try.laidOut rfl (by kernel_rfl) 4 rfl Try.underlying4
      (fun ds h => by match ds, h with | [_, _, _], _ => rfl)
      (ChangeSpec.witness6 (enc := enc) (C := Try.checked) false ⟨#[], #[.slice none 0 0, .agg #[.int .i64 0, .int .i64 0], .agg #[.int .i64 0, .int .i64 0]], []⟩ 8 (by kernel_rfl) (by kernel_rfl) (by kernel_rfl) (by kernel_rfl))
      (fun W base args ds ps hval0 hA _ => by
        have hval : ∀ (j : Nat) t v, Try.f6.params[j]? = some t → args[j]? = some v → Value.okWide Try.prog W .any base t v := hval0
        have hA' : DataW.TrodAll enc Try.prog W 0 (fun _ => true) true Try.f6.params.toList args.toList ds ps := hA
        clear hval0 hA
        have hA := hA'
        clear hA'
        rw [Try.params6] at hA hval
        obtain ⟨v0, vs0, d0, ds0, p0, q0, ea, rfl, rfl, tr0, rest0⟩ := trodAll_cons hA
        obtain ⟨v1, vs1, d1, ds1, p1, q1, rfl, rfl, rfl, tr1, rest1⟩ := trodAll_cons rest0
        obtain ⟨v2, vs2, d2, ds2, p2, q2, rfl, rfl, rfl, tr2, rest2⟩ := trodAll_cons rest1
        obtain ⟨rfl, rfl, rfl⟩ := trodAll_nil rest2
        obtain rfl : args = #[v0, v1, v2] := by cases args; simp_all
        clear ea
        have sl_p : Frame.Okc W (.sl [.int, .int]) v0 := by obtain ⟨a, l, c, e⟩ := okWide_slice Try.underlying28 (hval 0 _ v0 rfl rfl); exact Frame.arg_cell (k := 8) (by kernel_rfl) (by have e2 : v0 = .slice a l c := e; rw [e2]; rfl) tr0
        obtain ⟨cs_a, e_a, hl_a, hc_a⟩ := Frame.arg_agg Try.underlying23 (k := 8) (ks := [.int, .int]) (by kernel_rfl) (hval 1 _ v1 rfl rfl) tr1
        subst e_a
        obtain ⟨c_a_x, c_a_y, rfl⟩ : ∃ c_a_x c_a_y, cs_a = [c_a_x, c_a_y] := by match cs_a, hl_a with | [x0, x1], _ => exact ⟨x0, x1, rfl⟩
        have o_a_x : Frame.Okc W (.int) c_a_x := hc_a 0 (by decide) (by simp)
        obtain ⟨a_x, e_a_x, w_a_x⟩ := o_a_x.int_inv; subst e_a_x
        have o_a_y : Frame.Okc W (.int) c_a_y := hc_a 1 (by decide) (by simp)
        obtain ⟨a_y, e_a_y, w_a_y⟩ := o_a_y.int_inv; subst e_a_y
        obtain ⟨cs_b, e_b, hl_b, hc_b⟩ := Frame.arg_agg Try.underlying23 (k := 8) (ks := [.int, .int]) (by kernel_rfl) (hval 2 _ v2 rfl rfl) tr2
        subst e_b
        obtain ⟨c_b_x, c_b_y, rfl⟩ : ∃ c_b_x c_b_y, cs_b = [c_b_x, c_b_y] := by match cs_b, hl_b with | [x0, x1], _ => exact ⟨x0, x1, rfl⟩
        have o_b_x : Frame.Okc W (.int) c_b_x := hc_b 0 (by decide) (by simp)
        obtain ⟨b_x, e_b_x, w_b_x⟩ := o_b_x.int_inv; subst e_b_x
        have o_b_y : Frame.Okc W (.int) c_b_y := hc_b 1 (by decide) (by simp)
        obtain ⟨b_y, e_b_y, w_b_y⟩ := o_b_y.int_inv; subst e_b_y
        exact walk v0 a_x a_y b_x b_y W sl_p w_a_x w_a_y w_b_x w_b_y)

/-- The statement. -/
theorem proved : Rows.PolygonMeetsSaid :=
  OpenClaim.holds_of_wide 6 Try.f6 rfl rfl rfl rfl rfl rfl rfl ⟨rfl, rfl, rfl, rfl, rfl⟩ rfl rfl rfl rfl rfl (by kernel_rfl) Try.func6 (by kernel_rfl)
    (of_decide_eq_true (by kernel_rfl)) (by unfold Func.isWrapper; first | (rw [if_pos (by decide +kernel)]; kernel_rfl) | (rw [if_neg (by decide +kernel)]; exact ⟨rfl, rfl⟩))
    (fun os started H enc _ => lifted os started H enc)
#print axioms proved
end PolygonMeets
end Go.Proofs.Ytlgdcpkjobbnnaa

