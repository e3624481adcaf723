/- ProbeWider: wider tubes are separated at no more seconds than narrower ones. For every input. -/
import Derived.Test.YtlgdcpkjobbnnaaProbeM
import Derived.Test.YtlgdcpkjobbnnaaTubeD
namespace Go.Proofs.Ytlgdcpkjobbnnaa
open Go.RowKit Go.ChangeShapes Go.WideShapes
namespace ProbeWider
open Kit Plane Tube Probe
theorem q2_ist {w : World} {b : Nat} {u v : Value} (h : Q2 w b u v) (hu : IsT w u) (hv : IsT w v) : ∀ k, k < 2 → w.cell? ⟨b, k, none⟩ = some ((fun k => if k = 0 then u else v) k) ∧ IsT w ((fun k => if k = 0 then u else v) k) := by
  intro k hk
  rcases (show k = 0 ∨ k = 1 from by omega) with rfl | rfl
  · exact ⟨h.1, hu⟩
  · exact ⟨h.2, hv⟩
theorem ist_of {w : World} {v : Value} {n : Nat} {T X Y H R B : Nat → Int} (h : TV w v n T X Y H R B) : IsT w v := ⟨n, T, X, Y, H, R, B, h⟩
/-- What Widen returns: a tube, or an error and none. -/
abbrev WdC (v : Value) (mo E : Int) (n : Nat) (T X Y H R B : Nat → Int) (w : World) : Prop := ∀ w1, Below w.heap.size w w1 → Calls Try.prog 39 #[v, .int .i64 mo, .int .i64 mo] w1 fun e w' => (∃ u, e = .returned (.tuple #[u, .int .i64 E]) ∧ TV w' u n T X Y H R B) ∧ Below w1.heap.size w1 w'
set_option maxRecDepth 100000 in
set_option maxHeartbeats 4000000 in
theorem bad (A A' : Option Addr) (m m' c c' n1 : Nat) (T X Y H R B : Nat → Int) (lat ver more mo E1 E2 E3 : Int) (w : World) (I1 : Hid (IsT w (.slice A m c))) (I2 : Hid (IsT w (.slice A' m' c')))
    (hm : more.tmod 500 % 500 = mo) (hb : -499 ≤ more.tmod 500 ∧ more.tmod 500 ≤ 499) (C : Hid (WdC (.slice A m c) mo E1 n1 T X Y H R B w))
    (P1 : Hid (∀ w1, Below w.heap.size w w1 → Calls Try.prog 32 #[.slice A m c, .slice A' m' c', .agg #[.int .i64 lat, .int .i64 ver]] w1 fun e w' => (∃ q, e = .returned (.tuple #[q, .int .i64 E2])) ∧ Below w1.heap.size w1 w'))
    (P2' : Hid (∀ w1 u, Below w.heap.size w w1 → TV w1 u n1 T X Y H R B → Calls Try.prog 32 #[u, .slice A' m' c', .agg #[.int .i64 lat, .int .i64 ver]] w1 fun e w' => e = .returned (.tuple #[.slice none 0 0, .int .i64 E3]) ∧ Below w1.heap.size w1 w'))
    (hE : E3 ≠ 0) :
    Calls Try.prog 13 #[.slice A m c, .slice A' m' c', .agg #[.int .i64 lat, .int .i64 ver], .int .i64 more] w fun e w' => e = .returned (.bool true) ∧ Below w.heap.size w w' := by
  obtain ⟨e1, e2⟩ := ge1 hE; clear hE
  have HP := Lib.hid (p2_new w 61 lat ver)
  have HW := Lib.hid (b_alloc (Below.refl w.heap.size w) (.cells #[.int .i64 lat, .int .i64 ver] 61))
  go_enter Try.func13, Try.ntmps13
  go_wp2_with fail
  (with_reducible refine (probeWorks _).mono ?_); rintro e w1 ⟨rfl, h⟩
  have W1 := Lib.hid (b_next HW.out h); have P1w := Lib.hid (p2_keep h HP.out); clear h
  have Q1 := Lib.hid (q2_new w1 59 (.slice A m c) (.slice A' m' c'))
  have W1' := Lib.hid (b_alloc W1.out (.cells #[.slice A m c, .slice A' m' c'] 59))
  have P1' := Lib.hid (p2_alloc (.cells #[.slice A m c, .slice A' m' c'] 59) P1w.out)
  go_wp2_with fail
  (with_reducible refine (long_any _ 2 2 _ _ (Nat.le_refl _) (by decide) (Lib.hid (q2_ist Q1.out (isT_keep W1'.out I1.out) (isT_keep W1'.out I2.out)))).mono ?_); rintro e w2 ⟨⟨r, rfl⟩, h⟩
  have W2 := Lib.hid (b_next W1'.out h); obtain ⟨p0, p1⟩ := p2_keep h P1'.out; clear h
  cases r with
  | true =>
    go_wp2_with fail
    go_ret
    exact ⟨retb rfl, W2.out⟩
  | false =>
    go_wp2_with fail
    (with_reducible refine (C.out _ W2.out).mono ?_); rintro e w3 ⟨⟨u, rfl, hu⟩, h⟩
    have W3 := Lib.hid (b_next W2.out h); have V3 := Lib.hid hu; replace p0 := keep h p0; replace p1 := keep h p1; clear h hu
    go_wp2_with fail
    (with_reducible refine (P1.out _ W3.out).mono ?_); rintro e w4 ⟨⟨q, rfl⟩, h⟩
    have W4 := Lib.hid (b_next W3.out h); have V4 := Lib.hid (tv_keep h V3.out); replace p0 := keep h p0; replace p1 := keep h p1; clear h
    go_wp2_with fail
    (with_reducible refine (P2'.out _ _ W4.out V4.out).mono ?_); rintro e w5 ⟨rfl, h⟩
    have W5 := Lib.hid (b_next W4.out h); clear h p0 p1
    go_wp2_with fail
    all_goals
      go_ret
      exact ⟨retb rfl, W5.out⟩
abbrev PrC (u v : Value) (lat ver : Int) (M : Nat) (F : Nat → Nat → Int) (w : World) : Prop := ∀ w1, Below w.heap.size w w1 → Calls Try.prog 32 #[u, v, .agg #[.int .i64 lat, .int .i64 ver]] w1 fun e w' => (∃ q, e = .returned (.tuple #[q, .int .i64 0]) ∧ Own w' w1.heap.size 67 2 q M F) ∧ Below w1.heap.size w1 w'
/-- One of the first j intervals holds interval i. -/
def anyIn (F F' : Nat → Nat → Int) (i : Nat) : Nat → Bool
  | 0 => false
  | j + 1 => anyIn F F' i j || (decide (F' j 0 ≤ F i 0) && decide (F i 1 ≤ F' j 1))
theorem any_step {F F' : Nat → Nat → Int} {i j : Nat} {b c : Bool} (h : b = anyIn F F' i j) (e : c = (b || (decide (F' j 0 ≤ F i 0) && decide (F i 1 ≤ F' j 1)))) : c = anyIn F F' i (j + 1) := by rw [e, h]; rfl
theorem any_ex {F F' : Nat → Nat → Int} {i : Nat} : ∀ {k j : Nat}, j < k → F' j 0 ≤ F i 0 → F i 1 ≤ F' j 1 → anyIn F F' i k = true := by
  intro k
  induction k with
  | zero => intro j h; omega
  | succ k ih =>
    intro j h h1 h2
    show (anyIn F F' i k || (decide (F' k 0 ≤ F i 0) && decide (F i 1 ≤ F' k 1))) = true
    by_cases e : j = k
    · subst e; rw [decide_eq_true h1, decide_eq_true h2]; simp
    · rw [ih (show j < k by omega) h1 h2]; rfl
set_option maxRecDepth 100000 in
set_option maxHeartbeats 8000000 in
theorem body (A A' : Option Addr) (m m' c c' n1 M M' : Nat) (F F' : Nat → Nat → Int) (T X Y H R B : Nat → Int) (lat ver more mo : Int) (w : World) (I1 : Hid (IsT w (.slice A m c))) (I2 : Hid (IsT w (.slice A' m' c')))
    (hm : more.tmod 500 % 500 = mo) (hb : -499 ≤ more.tmod 500 ∧ more.tmod 500 ≤ 499) (C : Hid (WdC (.slice A m c) mo 0 n1 T X Y H R B w))
    (P1 : Hid (PrC (.slice A m c) (.slice A' m' c') lat ver M F w))
    (P2' : Hid (∀ w1 u, Below w.heap.size w w1 → TV w1 u n1 T X Y H R B → Calls Try.prog 32 #[u, .slice A' m' c', .agg #[.int .i64 lat, .int .i64 ver]] w1 fun e w' => (∃ q, e = .returned (.tuple #[q, .int .i64 0]) ∧ Own w' w1.heap.size 67 2 q M' F') ∧ Below w1.heap.size w1 w'))
    (hx : Hid (∀ i, i < M → anyIn F F' i M' = true)) :
    Calls Try.prog 13 #[.slice A m c, .slice A' m' c', .agg #[.int .i64 lat, .int .i64 ver], .int .i64 more] w fun e w' => e = .returned (.bool true) ∧ Below w.heap.size w w' := by
  have HP := Lib.hid (p2_new w 61 lat ver)
  have HW := Lib.hid (b_alloc (Below.refl w.heap.size w) (.cells #[.int .i64 lat, .int .i64 ver] 61))
  go_enter Try.func13, Try.ntmps13
  go_wp2_with fail
  (with_reducible refine (probeWorks _).mono ?_); rintro e w1 ⟨rfl, h⟩
  have W1 := Lib.hid (b_next HW.out h); have P1w := Lib.hid (p2_keep h HP.out); clear h
  have Q1 := Lib.hid (q2_new w1 59 (.slice A m c) (.slice A' m' c'))
  have W1' := Lib.hid (b_alloc W1.out (.cells #[.slice A m c, .slice A' m' c'] 59))
  have P1' := Lib.hid (p2_alloc (.cells #[.slice A m c, .slice A' m' c'] 59) P1w.out)
  go_wp2_with fail
  (with_reducible refine (long_any _ 2 2 _ _ (Nat.le_refl _) (by decide) (Lib.hid (q2_ist Q1.out (isT_keep W1'.out I1.out) (isT_keep W1'.out I2.out)))).mono ?_); rintro e w2 ⟨⟨r, rfl⟩, h⟩
  have W2 := Lib.hid (b_next W1'.out h); obtain ⟨p0, p1⟩ := p2_keep h P1'.out; clear h
  cases r with
  | true =>
    go_wp2_with fail
    go_ret
    exact ⟨retb rfl, W2.out⟩
  | false =>
    go_wp2_with fail
    (with_reducible refine (C.out _ W2.out).mono ?_); rintro e w3 ⟨⟨u, rfl, hu⟩, h⟩
    have W3 := Lib.hid (b_next W2.out h); have V3 := Lib.hid hu; replace p0 := keep h p0; replace p1 := keep h p1; clear h hu
    go_wp2_with fail
    (with_reducible refine (P1.out _ W3.out).mono ?_); rintro e w4 ⟨⟨q1, rfl, o1⟩, h⟩
    have W4 := Lib.hid (b_next W3.out h); have V4 := Lib.hid (tv_keep h V3.out); have O1 := Lib.hid o1; replace p0 := keep h p0; replace p1 := keep h p1; clear h o1
    go_wp2_with fail
    (with_reducible refine (P2'.out _ _ W4.out V4.out).mono ?_); rintro e w5 ⟨⟨q2, rfl, o2⟩, h⟩
    have o1 := own_keep h O1.out
    have W5 := Lib.hid (b_next W4.out h); clear h p0 p1
    obtain ⟨A1, c1, rfl, k1, k1'⟩ := own_slice o1
    obtain ⟨A2, c2, rfl, k2, k2'⟩ := own_slice o2
    have k1'' : c1 ≤ 9223372036854775807 := Nat.le_trans k1' (by decide)
    have k2'' : c2 ≤ 9223372036854775807 := Nat.le_trans k2' (by decide)
    have O4 := Lib.hid o1; have O5 := Lib.hid o2; clear o1 o2 k1' k2'
    obtain ⟨wb, rfl⟩ : ∃ wb : World, wb = w5 := ⟨_, rfl⟩
    go_wp2_with fail
    go_loopw [63] (fun s wr => ∃ i : Nat, i ≤ M ∧ s = .int .i64 i ∧ Below wb.heap.size wb wr) (fun s _ => M - (intOf s).toNat)
    case atStart => exact ⟨0, Nat.zero_le _, rfl, Below.refl _ _⟩
    case round =>
      obtain ⟨i, hi, rfl, hbl⟩ := hrel
      have HB := Lib.hid hbl; clear hbl
      by_cases hlt : i < M
      · have hl : (i : Int) < (M : Int) := by omega
        obtain ⟨g1, cc1, he1, -, -, -, -, hr1⟩ := own_row O4.out (show 0 < M by omega)
        injection he1 with e1 _ e3
        subst e1 e3
        have r1 := keep HB.out (hr1.cell i hlt 0 (by omega)); have r2 := keep HB.out (hr1.cell i hlt 1 (by omega))
        rw [Nat.add_zero] at r1
        have HX := Lib.hid (hx.out i hlt)
        have PX := Lib.hid (p2_new wr 67 (F i 0) (F i 1)); have HB1 := Lib.hid (b_alloc HB.out (.cells #[.int .i64 (F i 0), .int .i64 (F i 1)] 67))
        go_wp2_with fail
        obtain ⟨wc, hwc⟩ : ∃ wc, wc = wr.alloc (.cells #[.int .i64 (F i 0), .int .i64 (F i 1)] 67) := ⟨_, rfl⟩
        rw [← hwc] at PX HB1 ⊢
        clear hwc r1 r2
        go_loopw [69, 17] (fun s q ws => ∃ (j : Nat) (bb : Bool), j ≤ M' ∧ s = .int .i64 j ∧ q = .bool bb ∧ bb = anyIn F F' i j ∧ Below wc.heap.size wc ws) (fun s _ _ => M' - (intOf s).toNat)
        case atStart => exact ⟨0, false, Nat.zero_le _, rfl, rfl, rfl, Below.refl _ _⟩
        case round =>
          obtain ⟨j, bb, hj, rfl, rfl, hbb, hbl⟩ := hrel
          have HC := Lib.hid hbl; have HBB := Lib.hid hbb; clear hbl hbb
          by_cases hlj : j < M'
          · have hlj' : (j : Int) < (M' : Int) := by omega
            obtain ⟨g2, cc2, he2, -, -, -, -, hr2⟩ := own_row O5.out (show 0 < M' by omega)
            injection he2 with e2 _ e4
            subst e2 e4
            have hbs := b_next HB1.out HC.out
            have r3 := keep hbs (hr2.cell j hlj 0 (by omega)); have r4 := keep hbs (hr2.cell j hlj 1 (by omega))
            rw [Nat.add_zero] at r3
            obtain ⟨x0, x1⟩ := p2_keep HC.out PX.out
            have n1 := new_ne x0
            have HC1 := Lib.hid (b_alloc HC.out (.cells #[.int .i64 (F' j 0), .int .i64 (F' j 1)] 67))
            clear hbs
            cases bb with
            | true =>
              go_wp2_with fail
              exact ⟨⟨j + 1, true, by omega, by go_num, rfl, any_step HBB.out (by simp), HC1.out⟩, by simp [intOf]; omega⟩
            | false =>
              by_cases d1 : F' j 0 ≤ F i 0
              · have f1 := decide_eq_true d1
                by_cases d2 : F i 1 ≤ F' j 1
                · have f2 := decide_eq_true d2
                  go_wp2_with fail
                  exact ⟨⟨j + 1, true, by omega, by go_num, rfl, any_step HBB.out (by rw [f1, f2]; rfl), HC1.out⟩, by simp [intOf]; omega⟩
                · have f2 := decide_eq_false d2
                  go_wp2_with fail
                  exact ⟨⟨j + 1, false, by omega, by go_num, rfl, any_step HBB.out (by rw [f1, f2]; rfl), HC1.out⟩, by simp [intOf]; omega⟩
              · have f1 := decide_eq_false d1
                go_wp2_with fail
                exact ⟨⟨j + 1, false, by omega, by go_num, rfl, any_step HBB.out (by rw [f1]; rfl), HC1.out⟩, by simp [intOf]; omega⟩
          · have hlj' : ¬ (j : Int) < (M' : Int) := by omega
            have hj' : j = M' := by omega
            have hbt : bb = true := by rw [HBB.out, hj']; exact HX.out
            subst hbt
            have HJ := Lib.hid hj'; clear hj'
            have HBE := Lib.hid (b_next HB1.out HC.out)
            go_wp2_with fail
            exact ⟨⟨i + 1, by omega, by go_num, HBE.out⟩, by simp [intOf]; omega⟩
      · have hl : ¬ (i : Int) < (M : Int) := by omega
        go_wp2_with fail
        go_ret
        exact ⟨retb rfl, b_next W5.out HB.out⟩
theorem two (E : Int) : (E = 0 ∧ (E == 0) = true ∧ (E != 0) = false) ∨ (E ≠ 0 ∧ (E == 0) = false ∧ (E != 0) = true) := by
  by_cases h : E = 0
  · exact Or.inl ⟨h, by simp [h], by simp [h]⟩
  · exact Or.inr ⟨h, by simp [h], by simp [h]⟩
theorem tu_more (T R : Nat → Int) (i : Nat) (t r : Int) : tu T (fun k => R k + r) i t = tu T R i t + r := by
  unfold tu
  dsimp only
  rw [show R (i + 1) + r - (R i + r) = R (i + 1) - R i from by omega]
  omega
theorem cf_wider {T X Y H R B : Nat → Int} {n : Nat} {T' X' Y' H' R' B' : Nat → Int} {n' : Nat} {lat ver mo t : Int} (h0 : 0 ≤ mo) (h : cfT T X Y H R B n T' X' Y' H' R' B' n' lat ver t = true) : cfT T X Y H (fun k => R k + mo) (fun k => B k + mo) n T' X' Y' H' R' B' n' lat ver t = true := by
  unfold cfT sepB at h ⊢
  rw [tu_more, tu_more]
  simp only [Bool.not_eq_true', Bool.or_eq_false_iff, decide_eq_false_iff_not] at h ⊢
  omega
theorem tm500 (x : Int) : -499 ≤ x.tmod 500 ∧ x.tmod 500 ≤ 499 := by
  have := (Num.tdiv_facts x 500 (by omega)).2.2.2.1 (by omega); omega
theorem tv_nil (w : World) (T X Y H R B : Nat → Int) : TV w (.slice none 0 0) 0 T X Y H R B := Or.inl ⟨rfl, Or.inl rfl⟩
theorem twoE_left {lat ver E E' : Int} (h : E ≠ 0) : twoE lat ver E E' ≠ 0 := fun h' => h (twoE_zero h').2.1
section
variable {u v : Value} {n n' : Nat} {T X Y H R B T' X' Y' H' R' B' : Nat → Int} {W : World} {lat ver : Int}
theorem pair_any (hu : TV W u n T X Y H R B) (hv : TV W v n' T' X' Y' H' R' B') : ∃ E, ∀ w1, Below W.heap.size W w1 → Calls Try.prog 32 #[u, v, .agg #[.int .i64 lat, .int .i64 ver]] w1 fun e w' => (∃ q, e = .returned (.tuple #[q, .int .i64 E])) ∧ Below w1.heap.size w1 w' := by
  by_cases hE : twoE lat ver (tck T X Y H R B n) (tck T' X' Y' H' R' B' n') = 0
  · obtain ⟨z0, z1, z2⟩ := twoE_zero hE
    exact ⟨0, fun w1 hb => (pairC_ok (tv_keep hb hu) (tv_keep hb hv) ((tck_zero n).1 z1) ((tck_zero n').1 z2) z0).mono fun e w' ⟨⟨q, he, _⟩, hb⟩ => ⟨⟨q, he⟩, hb⟩⟩
  · exact ⟨_, fun w1 hb => (pairC_bad (tv_keep hb hu) (tv_keep hb hv) hE).mono fun e w' ⟨he, hb⟩ => ⟨⟨_, he⟩, hb⟩⟩
end
theorem walk (a : Value) (b : Value) (s_lat : Int) (s_vert : Int) (more : Int) (W : World) (h_a : Frame.Okc W (.sl [.int, .int, .int, .int, .int, .int]) a) (h_b : Frame.Okc W (.sl [.int, .int, .int, .int, .int, .int]) b) (_h_s_lat : -9223372036854775808 ≤ s_lat ∧ s_lat ≤ 9223372036854775807) (_h_s_vert : -9223372036854775808 ≤ s_vert ∧ s_vert ≤ 9223372036854775807) (_h_more : -9223372036854775808 ≤ more ∧ more ≤ 9223372036854775807) :
    Calls Try.prog 13 #[a, b, .agg #[.int .i64 s_lat, .int .i64 s_vert], .int .i64 more] W fun e w' => e = .returned (.bool true) ∧ Below W.heap.size W w' := by
  obtain ⟨n, T, X, Y, H, R, B, hu⟩ := tv_of h_a
  obtain ⟨n', T', X', Y', H', R', B', hv⟩ := tv_of h_b
  have J1 := ist_of hu
  have J2 := ist_of hv
  have mb := tm500 more
  obtain ⟨mo, hmo⟩ : ∃ mo, more.tmod 500 % 500 = mo := ⟨_, rfl⟩
  have m0 : 0 ≤ mo ∧ mo < 500 := by omega
  have hx : wdOk mo mo := by unfold wdOk; omega
  have C := checkC hu
  obtain ⟨E2, P1⟩ := pair_any (lat := s_lat) (ver := s_vert) hu hv
  -- an error of Widen: no tube
  have none : ∀ E, (∀ w1, Below W.heap.size W w1 → Calls Try.prog 39 #[a, .int .i64 mo, .int .i64 mo] w1 fun e w' => e = .returned (.tuple #[.slice none 0 0, .int .i64 E]) ∧ Below w1.heap.size w1 w') →
      Calls Try.prog 13 #[a, b, .agg #[.int .i64 s_lat, .int .i64 s_vert], .int .i64 more] W fun e w' => e = .returned (.bool true) ∧ Below W.heap.size W w' := by
    intro E WD
    have WC : WdC a mo E 0 T X Y H R B W := fun w1 hb => (WD w1 hb).mono fun e w' ⟨he, hb⟩ => ⟨⟨_, he, tv_nil _ _ _ _ _ _ _⟩, hb⟩
    have h3 : tck T X Y H R B 0 ≠ 0 := by show (3 : Int) ≠ 0; decide
    have P2 := fun (w1 : World) (u : Value) (hb : Below W.heap.size W w1) (hu : TV w1 u 0 T X Y H R B) => pairC_bad hu (tv_keep hb hv) (twoE_left (lat := s_lat) (ver := s_vert) (E' := tck T' X' Y' H' R' B' n') h3)
    obtain ⟨A, c, rfl, -, -⟩ := tv_slice hu
    obtain ⟨A', c', rfl, -, -⟩ := tv_slice hv
    exact bad A A' n n' c c' 0 T X Y H R B s_lat s_vert more mo E E2 _ W (Lib.hid J1) (Lib.hid J2) hmo mb (Lib.hid WC) (Lib.hid P1) (Lib.hid P2) (twoE_left h3)
  by_cases hE : tck T X Y H R B n = 0
  · have hp := (tck_zero n).1 hE
    rw [hE] at C
    have C2 : ∀ w1 v, TV w1 v n T X Y H (fun k => R k + mo) (fun k => B k + mo) → Calls Try.prog 69 #[v] w1 fun e w' => e = .returned (.int .i64 (tck T X Y H (fun k => R k + mo) (fun k => B k + mo) n)) ∧ Below w1.heap.size w1 w' := fun w1 v hv => checkC hv w1 (Below.refl _ _)
    have hu' := hu
    rcases hu with ⟨h0, -⟩ | ⟨h0, bk, off, cap, rfl, h1, h2, h3⟩
    · have := hp.pos; omega
    · have h2' : cap ≤ 9223372036854775807 := Nat.le_trans h2 (by decide)
      have SW := fun (w1 : World) (hb : Below W.heap.size W w1) => widen_walk n cap bk off T X Y H R B mo mo _ w1 h0 hp.small h1 h2' (Lib.hid fun k hk => s6_keep hb (h3 k hk)) (Lib.hid fun w2 hb2 => C w2 (b_next hb hb2)) (Lib.hid C2) (Lib.hid fun k hk => (hp.nums k hk).2) hx (two _)
      by_cases hE2 : tck T X Y H (fun k => R k + mo) (fun k => B k + mo) n = 0
      · have hp2 := (tck_zero n).1 hE2
        have WC : WdC (.slice (some ⟨bk, off, Option.none⟩) n cap) mo 0 n T X Y H (fun k => R k + mo) (fun k => B k + mo) W := fun w1 hb => (SW w1 hb).mono fun e w' hh => by
          obtain ⟨⟨h, -⟩ | ⟨-, g, cap', he, -, hc, hm, hr⟩, hbw⟩ := hh
          · exact absurd hE2 h
          · exact ⟨⟨_, he, tf_tv h0 hc hm hr⟩, hbw⟩
        by_cases hE3 : twoE s_lat s_vert 0 (tck T' X' Y' H' R' B' n') = 0
        · obtain ⟨z0, -, z2⟩ := twoE_zero hE3
          have hp' := (tck_zero n').1 z2
          have P1 := fun (w1 : World) (hb : Below W.heap.size W w1) => pairC_ok (tv_keep hb hu') (tv_keep hb hv) hp hp' z0
          have P2 := fun (w1 : World) (u : Value) (hb : Below W.heap.size W w1) (hu : TV w1 u n T X Y H (fun k => R k + mo) (fun k => B k + mo)) => pairC_ok hu (tv_keep hb hv) hp2 hp' z0
          obtain ⟨A', c', rfl, -, -⟩ := tv_slice hv
          refine body (some ⟨bk, off, Option.none⟩) A' n n' cap c' n _ _ _ _ T X Y H _ _ s_lat s_vert more mo W (Lib.hid J1) (Lib.hid J2) hmo mb (Lib.hid WC) (Lib.hid P1) (Lib.hid P2) (Lib.hid fun i hi => ?_)
          obtain ⟨j, hj, j1, j2⟩ := span_wider (cf' := cfT T X Y H (fun k => R k + mo) (fun k => B k + mo) n T' X' Y' H' R' B' n' s_lat s_vert) (fun t _ _ h => cf_wider m0.1 h) hi
          exact any_ex hj j1 j2
        · have P2 := fun (w1 : World) (u : Value) (hb : Below W.heap.size W w1) (hu : TV w1 u n T X Y H (fun k => R k + mo) (fun k => B k + mo)) => pairC_bad (lat := s_lat) (ver := s_vert) hu (tv_keep hb hv) (by rw [hE2]; exact hE3)
          obtain ⟨A', c', rfl, -, -⟩ := tv_slice hv
          exact bad (some ⟨bk, off, Option.none⟩) A' n n' cap c' n T X Y H _ _ s_lat s_vert more mo 0 E2 _ W (Lib.hid J1) (Lib.hid J2) hmo mb (Lib.hid WC) (Lib.hid P1) (Lib.hid P2) (by rw [hE2]; exact hE3)
      · refine none 4 fun w1 hb => (SW w1 hb).mono ?_
        rintro e w' ⟨⟨-, he⟩ | ⟨h, -⟩, hbw⟩
        · exact ⟨he, hbw⟩
        · exact absurd h hE2
  · exact none _ fun w1 hb => widen_bad a mo mo _ w1 (Lib.hid fun w2 hb2 => C w2 (b_next hb hb2)) (by simpa using hE) (by simpa using hE)
-- FRAME --

set_option maxRecDepth 100000 in
theorem lifted (os : Os) (started : os.Started) (H : Type) (enc : TypeId × Value → H) :
    ReturnsInHanded {} Try.checked os 13 .any (Rows.probeWiderSpec.pre6 enc Try.prog Try.f13 Rows.probeWiderRow.domain false) (Rows.probeWiderSpec.post enc Try.prog Try.f13 false true false false) :=
  Frame.lifted (C := Try.checked) 13 Try.f13 Try.own started (by kernel_rfl) Try.func13 Try.laidOut rfl (by kernel_rfl) 4 rfl Try.underlying4
      (fun ds h => by match ds, h with | [_, _, _, _], _ => rfl)
      (ChangeSpec.witness6 (enc := enc) (C := Try.checked) false ⟨#[], #[.slice none 0 0, .slice none 0 0, .agg #[.int .i64 0, .int .i64 0], .int .i64 0], []⟩ 8 (by kernel_rfl) (by kernel_rfl) (by kernel_rfl) (by kernel_rfl))
      (fun W base args ds ps hval0 hA _ => by
        have hval : ∀ (j : Nat) t v, Try.f13.params[j]? = some t → args[j]? = some v → Value.okWide Try.prog W .any base t v := hval0
        have hA' : DataW.TrodAll enc Try.prog W 0 (fun _ => true) true Try.f13.params.toList args.toList ds ps := hA
        clear hval0 hA
        have hA := hA'
        clear hA'
        rw [Try.params13] at hA hval
        obtain ⟨v0, vs0, d0, ds0, p0, q0, ea, rfl, rfl, tr0, rest0⟩ := trodAll_cons hA
        obtain ⟨v1, vs1, d1, ds1, p1, q1, rfl, rfl, rfl, tr1, rest1⟩ := trodAll_cons rest0
        obtain ⟨v2, vs2, d2, ds2, p2, q2, rfl, rfl, rfl, tr2, rest2⟩ := trodAll_cons rest1
        obtain ⟨v3, vs3, d3, ds3, p3, q3, rfl, rfl, rfl, tr3, rest3⟩ := trodAll_cons rest2
        obtain ⟨rfl, rfl, rfl⟩ := trodAll_nil rest3
        obtain rfl : args = #[v0, v1, v2, v3] := by cases args; simp_all
        clear ea
        have sl_a : Frame.Okc W (.sl [.int, .int, .int, .int, .int, .int]) v0 := by obtain ⟨a, l, c, e⟩ := okWide_slice Try.underlying59 (hval 0 _ v0 rfl rfl); exact Frame.arg_cell (k := 8) (by kernel_rfl) (by have e2 : v0 = .slice a l c := e; rw [e2]; rfl) tr0
        have sl_b : Frame.Okc W (.sl [.int, .int, .int, .int, .int, .int]) v1 := by obtain ⟨a, l, c, e⟩ := okWide_slice Try.underlying59 (hval 1 _ v1 rfl rfl); exact Frame.arg_cell (k := 8) (by kernel_rfl) (by have e2 : v1 = .slice a l c := e; rw [e2]; rfl) tr1
        obtain ⟨cs_s, e_s, hl_s, hc_s⟩ := Frame.arg_agg Try.underlying61 (k := 8) (ks := [.int, .int]) (by kernel_rfl) (hval 2 _ v2 rfl rfl) tr2
        subst e_s
        obtain ⟨c_s_lat, c_s_vert, rfl⟩ : ∃ c_s_lat c_s_vert, cs_s = [c_s_lat, c_s_vert] := by match cs_s, hl_s with | [x0, x1], _ => exact ⟨x0, x1, rfl⟩
        have o_s_lat : Frame.Okc W (.int) c_s_lat := hc_s 0 (by decide) (by simp)
        obtain ⟨s_lat, e_s_lat, w_s_lat⟩ := o_s_lat.int_inv; subst e_s_lat
        have o_s_vert : Frame.Okc W (.int) c_s_vert := hc_s 1 (by decide) (by simp)
        obtain ⟨s_vert, e_s_vert, w_s_vert⟩ := o_s_vert.int_inv; subst e_s_vert
        obtain ⟨more, rfl, w_more⟩ := Frame.arg_int Try.underlying3 (hval 3 _ v3 rfl rfl)
        exact walk v0 v1 s_lat s_vert more W sl_a sl_b w_s_lat w_s_vert (Frame.bd w_more))

/-- The statement. -/
theorem proved : Rows.ProbeWiderSaid :=
  OpenClaim.holds_of_wide 13 Try.f13 rfl rfl rfl rfl rfl rfl rfl ⟨rfl, rfl, rfl, rfl, rfl⟩ rfl rfl rfl rfl rfl (by kernel_rfl) Try.func13 (by kernel_rfl)
    (of_decide_eq_true (by kernel_rfl)) (by unfold Func.isWrapper; first | (rw [if_pos (by decide +kernel)]; kernel_rfl) | (rw [if_neg (by decide +kernel)]; exact ⟨rfl, rfl⟩))
    (fun os started H enc _ => lifted os started H enc)
#print axioms proved
end ProbeWider
end Go.Proofs.Ytlgdcpkjobbnnaa

