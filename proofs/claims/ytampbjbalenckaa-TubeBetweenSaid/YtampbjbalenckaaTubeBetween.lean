/- TubeBetween: interpolated numbers lie between those of the neighbouring nodes. For every input. -/
import Derived.Test.YtampbjbalenckaaTubeW
import Derived.Test.YtampbjbalenckaaFreshU
namespace Go.Proofs.Ytampbjbalenckaa
open Go.RowKit Go.ChangeShapes Go.WideShapes
namespace TubeBetween
open Kit Plane Tube
theorem btw (x a b : Int) (w : World) (h1 : min a b ≤ x) (h2 : x ≤ max a b) : Calls Try.prog 23 #[.int .i64 x, .int .i64 a, .int .i64 b] w fun e w' => e = .returned (.bool true) ∧ w = w' := by
  go_enter Try.func23, Try.ntmps23
  go_wp2_with fail
  all_goals first | (exfalso; omega) | (go_ret; exact ⟨by first | rfl | (simp; omega), rfl⟩)
set_option maxHeartbeats 1000000 in
theorem bad (v : Value) (t E : Int) (w : World) (C : Hid (∀ w1, Below w.heap.size w w1 → Calls Try.prog 22 #[v, .int .i64 t] w1 fun e w' => e = .returned (.tuple #[.agg #[.int .i64 0, .int .i64 0, .int .i64 0, .int .i64 0, .int .i64 0, .int .i64 0], .int .i64 E]) ∧ Below w1.heap.size w1 w')) (_hE1 : (E == 0) = false) (hE2 : (E != 0) = true) :
    Calls Try.prog 6 #[v, .int .i64 t] w fun e w' => e = .returned (.bool true) ∧ Below w.heap.size w w' := by
  go_enter Try.func6, Try.ntmps6
  go_wp2_with fail
  refine (tubeWorks _).mono ?_; rintro e w1 ⟨rfl, hw⟩
  go_wp2_with fail
  refine (C.out _ hw).mono ?_; rintro e w2 ⟨rfl, hb⟩
  replace hw := b_next hw hb; clear hb
  have hc := d6_new w2 47 0 0 0 0 0 0
  go_wp2_with fail
  go_ret
  exact ⟨retb rfl, b_alloc hw _⟩
set_option maxRecDepth 100000 in
set_option maxHeartbeats 2000000 in
theorem good (n cap b off : Nat) (T X Y H R B : Nat → Int) (t px py ph pr pb : Int) (w : World) (h0 : 0 < n) (hn : n ≤ 64) (hc : n ≤ cap) (hm : cap ≤ 9223372036854775807) (HV : Hid (∀ k, k < n → S6 w b (off + k * 6) (T k) (X k) (Y k) (H k) (R k) (B k)))
    (C : Hid (∀ w1, Below w.heap.size w w1 → Calls Try.prog 22 #[.slice (some ⟨b, off, none⟩) n cap, .int .i64 t] w1 fun e w' => e = .returned (.tuple #[.agg #[.int .i64 t, .int .i64 px, .int .i64 py, .int .i64 ph, .int .i64 pr, .int .i64 pb], .int .i64 0]) ∧ Below w1.heap.size w1 w'))
    (HT0 : T 0 ≤ t) (HTn : t ≤ T (n - 1)) (hT : Hid (∀ k, k < n → 0 ≤ T k ∧ T k ≤ 200000))
    (HQ : Hid (∀ k, k + 1 < n → T k ≤ t → t ≤ T (k + 1) → (min (H k) (H (k + 1)) ≤ ph ∧ ph ≤ max (H k) (H (k + 1))) ∧ (min (R k) (R (k + 1)) ≤ pr ∧ pr ≤ max (R k) (R (k + 1))) ∧ (min (B k) (B (k + 1)) ≤ pb ∧ pb ≤ max (B k) (B (k + 1))) ∧ (min (X k) (X (k + 1)) ≤ px ∧ px ≤ max (X k) (X (k + 1))) ∧ (min (Y k) (Y (k + 1)) ≤ py ∧ py ≤ max (Y k) (Y (k + 1)))))
    (H1 : Hid (n = 1 → T 0 = t ∧ X 0 = px ∧ Y 0 = py ∧ H 0 = ph ∧ R 0 = pr ∧ B 0 = pb)) :
    Calls Try.prog 6 #[.slice (some ⟨b, off, none⟩) n cap, .int .i64 t] w fun e w' => e = .returned (.bool true) ∧ Below w.heap.size w w' := by
  go_enter Try.func6, Try.ntmps6
  go_wp2_with fail
  refine (tubeWorks _).mono ?_; rintro e w1 ⟨rfl, hw⟩
  go_wp2_with fail
  refine (C.out _ hw).mono ?_; rintro e w2 ⟨rfl, hb⟩
  replace hw := b_next hw hb; clear hb
  have hcn := d6_new w2 47 t px py ph pr pb
  have hwn := b_alloc hw (.cells #[.int .i64 t, .int .i64 px, .int .i64 py, .int .i64 ph, .int .i64 pr, .int .i64 pb] 47)
  have HW := Lib.hid hwn; have HC := Lib.hid hcn; clear hwn hcn hw
  go_wp2_with fail
  generalize hWW : (w2.alloc (.cells #[.int .i64 t, .int .i64 px, .int .i64 py, .int .i64 ph, .int .i64 pr, .int .i64 pb] 47)) = W at *
  have HE := Lib.hid hWW; clear hWW
  go_loopw [8] (fun s wr => ∃ k : Nat, k + 1 ≤ n ∧ T k ≤ t ∧ (k = 0 ∨ T k < t) ∧ s = .int .i64 ((k : Int) + 1) ∧ Below W.heap.size W wr) (fun s _ => n - (intOf s).toNat)
  case atStart => exact ⟨0, h0, HT0, Or.inl rfl, rfl, Below.refl _ _⟩
  case round =>
    obtain ⟨k, hk, hu, hz, rfl, hbl⟩ := hrel
    have hww := b_next HW.out hbl
    have N0 := Lib.hid (d6_keep hbl HC.out)
    by_cases hlt : k + 1 < n
    · have E0 := Lib.hid (s6_keep hww (HV.out k (by omega))); have E1 := Lib.hid (s6_keep hww (HV.out (k + 1) hlt))
      have u1 : (k : Int) + 1 < (n : Int) := by omega
      have u2 : (k : Int) < (n : Int) := by omega
      have t0 := hT.out k (by omega); have t1 := hT.out (k + 1) hlt
      have u3 : IntKind.i64.wrap (k : Int) = (k : Int) := by rw [IntWalk.i64_in _ (by omega)]
      have HBL := Lib.hid hbl; have HWW := Lib.hid hww; clear hbl hww
      go_wp2_with fail
      refine fresh_region (by kernel_rfl) (by kernel_rfl) ?_
      apply Fq.r
      · intro wq hc hq
        (have q0 := s6_keep (cls hq) E0.out; have q1 := s6_keep (cls hq) E1.out; clear hc; go_simp; first | exact q2_value | exact q2_skip)
      simp only [Act.put, List.setIfInBounds_toArray, List.set_cons_zero, List.set_cons_succ]
      apply Fq.r
      · intro wq hc hq
        (have q0 := s6_keep (cls hq) E0.out; have q1 := s6_keep (cls hq) E1.out; clear hc; go_simp; first | exact q2_value | exact q2_skip)
      simp only [Act.put, List.setIfInBounds_toArray, List.set_cons_zero, List.set_cons_succ]
      apply Fq.r
      · intro wq hc hq
        (have q0 := s6_keep (cls hq) E0.out; have q1 := s6_keep (cls hq) E1.out; clear hc; go_simp; first | exact q2_value | exact q2_skip)
      simp only [Act.put, List.setIfInBounds_toArray, List.set_cons_zero, List.set_cons_succ]
      apply Fq.r
      · intro wq hc hq
        (have q0 := s6_keep (cls hq) E0.out; have q1 := s6_keep (cls hq) E1.out; clear hc; go_simp; first | exact q2_value | exact q2_skip)
      simp only [Act.put, List.setIfInBounds_toArray, List.set_cons_zero, List.set_cons_succ]
      apply Fq.r
      · intro wq hc hq
        (have q0 := s6_keep (cls hq) E0.out; have q1 := s6_keep (cls hq) E1.out; clear hc; go_simp; first | exact q2_value | exact q2_skip)
      simp only [Act.put, List.setIfInBounds_toArray, List.set_cons_zero, List.set_cons_succ]
      apply Fq.r
      · intro wq hc hq
        (have q0 := s6_keep (cls hq) E0.out; have q1 := s6_keep (cls hq) E1.out; clear hc; go_simp; first | exact q2_value | exact q2_skip)
      simp only [Act.put, List.setIfInBounds_toArray, List.set_cons_zero, List.set_cons_succ]
      apply Fq.r
      · intro wq hc hq
        (have q0 := s6_keep (cls hq) E0.out; have q1 := s6_keep (cls hq) E1.out; clear hc; go_simp; first | exact q2_value | exact q2_skip)
      simp only [Act.put, List.setIfInBounds_toArray, List.set_cons_zero, List.set_cons_succ]
      apply Fq.r
      · intro wq hc hq
        (have q0 := s6_keep (cls hq) E0.out; have q1 := s6_keep (cls hq) E1.out; clear hc; go_simp; first | exact q2_value | exact q2_skip)
      simp only [Act.put, List.setIfInBounds_toArray, List.set_cons_zero, List.set_cons_succ]
      apply Fq.r
      · intro wq hc hq
        (have q0 := s6_keep (cls hq) E0.out; have q1 := s6_keep (cls hq) E1.out; clear hc; go_simp; first | exact q2_value | exact q2_skip)
      simp only [Act.put, List.setIfInBounds_toArray, List.set_cons_zero, List.set_cons_succ]
      refine Fq.al 9 47 #[.int .i64 0, .int .i64 0, .int .i64 0, .int .i64 0, .int .i64 0, .int .i64 0] rfl (by simp) (fun wq => by go_simp) ?_
      refine Fq.al 10 47 #[.int .i64 0, .int .i64 0, .int .i64 0, .int .i64 0, .int .i64 0, .int .i64 0] rfl (by simp) (fun wq => by go_simp) ?_
      refine Fq.st 9 #[.int .i64 (T k), .int .i64 (X k), .int .i64 (Y k), .int .i64 (H k), .int .i64 (R k), .int .i64 (B k)] 9 47 #[.int .i64 0, .int .i64 0, .int .i64 0, .int .i64 0, .int .i64 0, .int .i64 0] rfl rfl (fun wq bq hq => ⟨((((((wq.setCell ⟨bq, 0, none⟩ (.int .i64 (T k))).setCell ⟨bq, 1, none⟩ (.int .i64 (X k))).setCell ⟨bq, 2, none⟩ (.int .i64 (Y k))).setCell ⟨bq, 3, none⟩ (.int .i64 (H k))).setCell ⟨bq, 4, none⟩ (.int .i64 (R k))).setCell ⟨bq, 5, none⟩ (.int .i64 (B k))), ?_, blk_set (blk_set (blk_set (blk_set (blk_set (blk_set (hq) 0 (.int .i64 (T k))) 1 (.int .i64 (X k))) 2 (.int .i64 (Y k))) 3 (.int .i64 (H k))) 4 (.int .i64 (R k))) 5 (.int .i64 (B k)), only_set (only_set (only_set (only_set (only_set (only_set (only_refl _ _) 0 (.int .i64 (T k))) 1 (.int .i64 (X k))) 2 (.int .i64 (Y k))) 3 (.int .i64 (H k))) 4 (.int .i64 (R k))) 5 (.int .i64 (B k))⟩) ?_
      · (have c0 : wq.cell? ⟨bq, 0, none⟩ = some (.int .i64 0) := blk_cell hq 0; have f0 := blk_free hq 0; have c1 : wq.cell? ⟨bq, 1, none⟩ = some (.int .i64 0) := blk_cell hq 1; have f1 := blk_free hq 1; have c2 : wq.cell? ⟨bq, 2, none⟩ = some (.int .i64 0) := blk_cell hq 2; have f2 := blk_free hq 2; have c3 : wq.cell? ⟨bq, 3, none⟩ = some (.int .i64 0) := blk_cell hq 3; have f3 := blk_free hq 3; have c4 : wq.cell? ⟨bq, 4, none⟩ = some (.int .i64 0) := blk_cell hq 4; have f4 := blk_free hq 4; have c5 : wq.cell? ⟨bq, 5, none⟩ = some (.int .i64 0) := blk_cell hq 5; have f5 := blk_free hq 5; simp only [Act.put, List.setIfInBounds_toArray, List.set_cons_zero, List.set_cons_succ]; clear hq; go_simp)
      refine Fq.st 10 #[.int .i64 (T (k + 1)), .int .i64 (X (k + 1)), .int .i64 (Y (k + 1)), .int .i64 (H (k + 1)), .int .i64 (R (k + 1)), .int .i64 (B (k + 1))] 10 47 #[.int .i64 0, .int .i64 0, .int .i64 0, .int .i64 0, .int .i64 0, .int .i64 0] rfl rfl (fun wq bq hq => ⟨((((((wq.setCell ⟨bq, 0, none⟩ (.int .i64 (T (k + 1)))).setCell ⟨bq, 1, none⟩ (.int .i64 (X (k + 1)))).setCell ⟨bq, 2, none⟩ (.int .i64 (Y (k + 1)))).setCell ⟨bq, 3, none⟩ (.int .i64 (H (k + 1)))).setCell ⟨bq, 4, none⟩ (.int .i64 (R (k + 1)))).setCell ⟨bq, 5, none⟩ (.int .i64 (B (k + 1)))), ?_, blk_set (blk_set (blk_set (blk_set (blk_set (blk_set (hq) 0 (.int .i64 (T (k + 1)))) 1 (.int .i64 (X (k + 1)))) 2 (.int .i64 (Y (k + 1)))) 3 (.int .i64 (H (k + 1)))) 4 (.int .i64 (R (k + 1)))) 5 (.int .i64 (B (k + 1))), only_set (only_set (only_set (only_set (only_set (only_set (only_refl _ _) 0 (.int .i64 (T (k + 1)))) 1 (.int .i64 (X (k + 1)))) 2 (.int .i64 (Y (k + 1)))) 3 (.int .i64 (H (k + 1)))) 4 (.int .i64 (R (k + 1)))) 5 (.int .i64 (B (k + 1)))⟩) ?_
      · (have c0 : wq.cell? ⟨bq, 0, none⟩ = some (.int .i64 0) := blk_cell hq 0; have f0 := blk_free hq 0; have c1 : wq.cell? ⟨bq, 1, none⟩ = some (.int .i64 0) := blk_cell hq 1; have f1 := blk_free hq 1; have c2 : wq.cell? ⟨bq, 2, none⟩ = some (.int .i64 0) := blk_cell hq 2; have f2 := blk_free hq 2; have c3 : wq.cell? ⟨bq, 3, none⟩ = some (.int .i64 0) := blk_cell hq 3; have f3 := blk_free hq 3; have c4 : wq.cell? ⟨bq, 4, none⟩ = some (.int .i64 0) := blk_cell hq 4; have f4 := blk_free hq 4; have c5 : wq.cell? ⟨bq, 5, none⟩ = some (.int .i64 0) := blk_cell hq 5; have f5 := blk_free hq 5; simp only [Act.put, List.setIfInBounds_toArray, List.set_cons_zero, List.set_cons_succ]; clear hq; go_simp)
      refine Fq.nil ⟨by kernel_rfl, fun β w3 M => ?_⟩
      simp only [List.reverse_cons, List.reverse_nil, List.nil_append, List.cons_append, putAl, Act.put, List.setIfInBounds_toArray, List.set_cons_zero, List.set_cons_succ, Nat.reduceAdd]
      have z9 := blk_b6 (M.block 11 9 _ _ _ _ rfl rfl)
      have l9 := M.fresh 9 _ _ _ rfl
      have z10 := blk_b6 (M.block 12 10 _ _ _ _ rfl rfl)
      have l10 := M.fresh 10 _ _ _ rfl
      have m9_10 := made_ne M 9 10 rfl rfl (by decide)
      have hbw3 := M.below
      clear M
      generalize β 9 = p9 at *
      generalize β 10 = p10 at *
      have hww := b_next HWW.out hbw3; have hbl := b_next HBL.out hbw3
      have k0 := d6_keep hbw3 N0.out
      clear hbw3
      by_cases hle : t ≤ T (k + 1)
      · obtain ⟨g1, g2, g3, g4, g5⟩ := HQ.out k hlt hu hle
        go_wp2_with fail
        (with_reducible refine (btw (ph) (H k) (H (k + 1)) _ (by omega) (by omega)).mono ?_); rintro e w4 ⟨rfl, h⟩; subst h
        go_wp2_with fail
        (with_reducible refine (btw (pr) (R k) (R (k + 1)) _ (by omega) (by omega)).mono ?_); rintro e w4 ⟨rfl, h⟩; subst h
        go_wp2_with fail
        (with_reducible refine (btw (pb) (B k) (B (k + 1)) _ (by omega) (by omega)).mono ?_); rintro e w4 ⟨rfl, h⟩; subst h
        go_wp2_with fail
        (with_reducible refine (btw (px) (X k) (X (k + 1)) _ (by omega) (by omega)).mono ?_); rintro e w4 ⟨rfl, h⟩; subst h
        go_wp2_with fail
        (with_reducible refine (btw (py) (Y k) (Y (k + 1)) _ (by omega) (by omega)).mono ?_); rintro e w4 ⟨rfl, h⟩; subst h
        go_wp2_with fail

        go_ret
        exact ⟨retb rfl, hww⟩
      · go_wp2_with fail
        go_roundw
        case rel => first | exact ⟨k + 1, hlt, by omega, Or.inr (by omega), by go_num, hbl⟩ | ((repeat apply Exists.intro); exact ⟨⟨k + 1, hlt, by omega, Or.inr (by omega), by go_num, hbl⟩, rfl⟩)
        case measure => simp [intOf]; omega
    · have hk0 : k = 0 ∧ n = 1 := by
        rcases hz with hz | hz
        · omega
        · have e : n - 1 = k := by omega
          rw [e] at HTn
          omega
      obtain ⟨e1, e2⟩ := hk0
      subst e1
      subst e2
      obtain ⟨f0, f1, f2, f3, f4, f5⟩ := H1.out rfl
      subst f0 f1 f2 f3 f4 f5
      have e0 := s6_keep hww (HV.out 0 (by omega))
      rw [Nat.zero_mul, Nat.add_zero] at e0
      have E0 := Lib.hid e0; have N1 := N0; clear e0
      go_wp2_with fail
      refine d_region (by kernel_rfl) (by kernel_rfl) ?_
      repeat
        first
          | (refine d_plain (by with_reducible rfl) ?_; apply Exists.intro; refine ⟨fun wq hc hq => ?_, ?_⟩)
          | (refine d_on (by with_reducible rfl) (by rfl) (by with_reducible rfl) ?_; apply Exists.intro; refine ⟨fun wq hc hq => ?_, ?_⟩)
          | (refine d_off (by with_reducible rfl) (by rfl) (by rfl) ?_)
          | (refine d_void (by with_reducible rfl) (by rfl) ?_)
        try any_goals
          (have q0 := d6_keep (cls hq) N1.out; have q1 := s6_keep (cls hq) E0.out; clear hc
           go_simp
           first
             | rfl)
        simp only [Act.put, List.setIfInBounds_toArray, List.set_cons_zero, List.set_cons_succ]
      refine d_nil ?_
      intro w5 hb5
      go_wp2_with fail
      go_ret
      exact ⟨retb rfl, b_next hww hb5⟩
theorem mm1 {a b x : Int} (h : (a ≤ x ∨ b ≤ x) ∧ (x ≤ a ∨ x ≤ b)) : min a b ≤ x ∧ x ≤ max a b := by omega
theorem mm2 {a b q : Int} (h : (0 ≤ q ∨ b - a ≤ q) ∧ (q ≤ 0 ∨ q ≤ b - a)) : min a b ≤ a + q ∧ a + q ≤ max a b := by omega
theorem mm3 (a b : Int) : min a b ≤ b ∧ b ≤ max a b := by omega
set_option maxHeartbeats 1000000 in
theorem walk (l : Value) (t : Int) (W : World) (h_l : Frame.Okc W (.sl [.int, .int, .int, .int, .int, .int]) l) (h_t : -9223372036854775808 ≤ t ∧ t ≤ 9223372036854775807) :
    Calls Try.prog 6 #[l, .int .i64 t] W fun e w' => e = .returned (.bool true) ∧ Below W.heap.size W w' := by
  obtain ⟨n, T, X, Y, H, R, B, hv⟩ := tv_of h_l
  by_cases hE : tatE T X Y H R B n t = 0
  · obtain ⟨hp, h0, h1, i, hi⟩ := tatE_zero hE
    have C := fun w1 hb => tAt_ok (tv_keep (w1 := w1) hb hv) hE hi
    have bd := at_bds hp hi h1
    rcases hv with ⟨hn, -⟩ | ⟨hn, b, off, cap, rfl, h1', h2, h3⟩
    · have := hp.pos; omega
    · refine good n cap b off T X Y H R B t _ _ _ _ _ W hp.pos hp.small h1' (Nat.le_trans h2 (by decide)) (Lib.hid h3) (Lib.hid C) h0 h1 (Lib.hid hp.time) (Lib.hid fun k hk ha hb => ?_) (Lib.hid fun h => ?_)
      · have hlt := hp.rise k hk
        by_cases he : t = T (k + 1)
        · have hik : i = k + 1 := by
            rcases Nat.lt_trichotomy i (k + 1) with hl | hl | hl
            · have := hi.2.2 (by omega)
              have := tok_le hp (i := i + 1) (j := k + 1) (by omega) hk
              omega
            · exact hl
            · have := tok_lt hp (i := k + 1) (j := i) hl hi.1
              have := hi.2.1
              omega
          subst hik
          subst he
          rw [tx_at, tx_at, th_at, tu_at, tu_at]
          exact ⟨mm3 _ _, mm3 _ _, mm3 _ _, mm3 _ _, mm3 _ _⟩
        · have hik : i = k := by
            rcases Nat.lt_trichotomy i k with hl | hl | hl
            · have := hi.2.2 (by omega)
              have := tok_le hp (i := i + 1) (j := k) (by omega) (by omega)
              omega
            · exact hl
            · have := tok_le hp (i := k + 1) (j := i) hl hi.1
              have := hi.2.1
              omega
          subst hik
          have d1 := quo_bd (d := H (i + 1) - H i) (n := t - T i) (N := T (i + 1) - T i) (by omega) (by omega) (by omega)
          have d2 := up_bd (d := R (i + 1) - R i) (n := t - T i) (N := T (i + 1) - T i) (by omega) (by omega) (by omega)
          have d3 := up_bd (d := B (i + 1) - B i) (n := t - T i) (N := T (i + 1) - T i) (by omega) (by omega) (by omega)
          have x1 := tw_bd (a := X i) (b := X (i + 1)) (n := t - T i) (d := T (i + 1) - T i) (by omega) (by omega) (by omega)
          have y1 := tw_bd (a := Y i) (b := Y (i + 1)) (n := t - T i) (d := T (i + 1) - T i) (by omega) (by omega) (by omega)
          exact ⟨mm2 d1, mm2 d2, mm2 d3, mm1 x1, mm1 y1⟩
      · subst h
        have hi0 : i = 0 := by have := hi.1; omega
        subst hi0
        have ht : t = T 0 := by have := hi.2.1; simp at h1; omega
        subst ht
        rw [tx_at, tx_at, th_at, tu_at, tu_at]
        exact ⟨rfl, rfl, rfl, rfl, rfl, rfl⟩
  · have C := fun w1 hb => tAt_bad (tv_keep (w1 := w1) hb hv) hE
    exact bad l t _ W (Lib.hid C) (by simpa using hE) (by simpa using hE)

-- FRAME --

set_option maxRecDepth 100000 in
theorem lifted (os : Os) (started : os.Started) (H : Type) (enc : TypeId × Value → H) :
    ReturnsInHanded {} Try.checked os 6 .any (Rows.tubeBetweenSpec.pre6 enc Try.prog Try.f6 Rows.tubeBetweenRow.domain false) (Rows.tubeBetweenSpec.post enc Try.prog Try.f6 false true false false) :=
  Frame.lifted (C := Try.checked) 6 Try.f6 Try.own started (by kernel_rfl) Try.func6 Try.laidOut rfl (by kernel_rfl) 4 rfl Try.underlying4
      (fun ds h => by match ds, h with | [_, _], _ => rfl)
      (ChangeSpec.witness6 (enc := enc) (C := Try.checked) false ⟨#[], #[.slice none 0 0, .int .i64 0], []⟩ 8 (by kernel_rfl) (by kernel_rfl) (by kernel_rfl) (by kernel_rfl))
      (fun W base args ds ps hval0 hA _ => by
        have hval : ∀ (j : Nat) t v, Try.f6.params[j]? = some t → args[j]? = some v → Value.okWide Try.prog W .any base t v := hval0
        have hA' : DataW.TrodAll enc Try.prog W 0 (fun _ => true) true Try.f6.params.toList args.toList ds ps := hA
        clear hval0 hA
        have hA := hA'
        clear hA'
        rw [Try.params6] at hA hval
        obtain ⟨v0, vs0, d0, ds0, p0, q0, ea, rfl, rfl, tr0, rest0⟩ := trodAll_cons hA
        obtain ⟨v1, vs1, d1, ds1, p1, q1, rfl, rfl, rfl, tr1, rest1⟩ := trodAll_cons rest0
        obtain ⟨rfl, rfl, rfl⟩ := trodAll_nil rest1
        obtain rfl : args = #[v0, v1] := by cases args; simp_all
        clear ea
        have sl_l : Frame.Okc W (.sl [.int, .int, .int, .int, .int, .int]) v0 := by obtain ⟨a, l, c, e⟩ := okWide_slice Try.underlying45 (hval 0 _ v0 rfl rfl); exact Frame.arg_cell (k := 8) (by kernel_rfl) (by have e2 : v0 = .slice a l c := e; rw [e2]; rfl) tr0
        obtain ⟨t, rfl, w_t⟩ := Frame.arg_int Try.underlying3 (hval 1 _ v1 rfl rfl)
        exact walk v0 t W sl_l (Frame.bd w_t))

/-- The statement. -/
theorem proved : Rows.TubeBetweenSaid :=
  OpenClaim.holds_of_wide 6 Try.f6 rfl rfl rfl rfl rfl rfl rfl ⟨rfl, rfl, rfl, rfl, rfl⟩ rfl rfl rfl rfl rfl (by kernel_rfl) Try.func6 (by kernel_rfl)
    (of_decide_eq_true (by kernel_rfl)) (by unfold Func.isWrapper; first | (rw [if_pos (by decide +kernel)]; kernel_rfl) | (rw [if_neg (by decide +kernel)]; exact ⟨rfl, rfl⟩))
    (fun os started H enc _ => lifted os started H enc)
#print axioms proved
end TubeBetween
end Go.Proofs.Ytampbjbalenckaa

