/- ChartNear: no fix is nearer than the nearest one. For every input. -/
import Derived.Test.YtlgdcpkjobbnnaaChO
import Derived.Test.YtlgdcpkjobbnnaaChN
namespace Go.Proofs.Ytlgdcpkjobbnnaa
open Go.RowKit Go.ChangeShapes Go.WideShapes
namespace ChartNear
open Kit Plane Poly Chart
abbrev NeC (fx aw : Value) (qx qy : Int) (s : ByteArray) (E : Int) (w : World) : Prop := ∀ w1, Below w.heap.size w w1 → NrC fx aw qx qy s E w1
set_option maxHeartbeats 2000000 in
theorem bad (fx aw : Value) (qx qy E : Int) (w : World) (hE : E ≠ 0) (NR : Hid (NeC fx aw qx qy ⟨#[]⟩ E w)) :
    Calls Try.prog 9 #[.agg #[fx, aw], .agg #[.int .i64 qx, .int .i64 qy]] w fun e w' => e = .returned (.bool true) ∧ Below w.heap.size w w' := by
  have W0 := Lib.hid (b_alloc (b_alloc (Below.refl w.heap.size w) (.cells #[fx, aw] 43)) (.cells #[.int .i64 qx, .int .i64 qy] 23))
  have Q0 := Lib.hid (p2_after w (.cells #[fx, aw] 43) 23 qx qy)
  have B0 := Lib.hid (p2v_keep (b_alloc (Below.refl _ _) (.cells #[.int .i64 qx, .int .i64 qy] 23)) (p2v_new w 43 fx aw))
  have z1 : (E == 0) = false := by simp [hE]
  have z2 : (E != 0) = true := by simp [hE]
  go_enter Try.func9, Try.ntmps9
  go_wp2_with fail
  (with_reducible refine (chartWorks _).mono ?_); rintro e w1 ⟨rfl, hb⟩
  have W1 := Lib.hid (b_next W0.out hb); obtain ⟨a0, a1⟩ := p2_keep hb Q0.out; obtain ⟨x0, x1⟩ := p2v_keep hb B0.out; clear hb
  go_wp2_with fail
  (with_reducible refine (NR.out _ W1.out).mono ?_); rintro e w2 ⟨rfl, hb⟩
  have W2 := Lib.hid (b_next W1.out hb); clear hb a0 a1 x0 x1
  go_wp2_with fail
  all_goals (go_ret; exact ⟨by first | rfl | exact retb rfl | exact retb (by decide +kernel), W2.out⟩)
set_option maxRecDepth 100000 in
set_option maxHeartbeats 8000000 in
theorem ok (b off n c j : Nat) (aw : Value) (N : Nat → ByteArray) (X Y : Nat → Int) (qx qy : Int) (w : World) (hj : j < n) (hn : n ≤ 64) (hc : n ≤ c) (hm : c ≤ 9223372036854775807) (NR : Hid (NeC (.slice (some ⟨b, off, none⟩) n c) aw qx qy (N j) 0 w)) (HF : Hid (∀ k, k < n → E3 w b off k (N k) (X k) (Y k)))
    (FI : Hid (∀ w1, Below w.heap.size w w1 → Calls Try.prog 28 #[.agg #[.slice (some ⟨b, off, none⟩) n c, aw], .string (N j)] w1 fun e w' => e = .returned (.tuple #[.agg #[.string (N j), .int .i64 (X j), .int .i64 (Y j)], .int .i64 0]) ∧ Below w1.heap.size w1 w'))
    (SQ : Hid (∀ k, k < n → ∀ w1, Calls Try.prog 29 #[.agg #[.int .i64 (X k), .int .i64 (Y k)], .agg #[.int .i64 qx, .int .i64 qy]] w1 fun e w' => e = .returned (.int .i64 (sqr qx qy (X k) (Y k))) ∧ Below w1.heap.size w1 w'))
    (BE : Hid (∀ k, k < n → clo (fun k => sqr qx qy (X k) (Y k)) N k j = false)) :
    Calls Try.prog 9 #[.agg #[.slice (some ⟨b, off, none⟩) n c, aw], .agg #[.int .i64 qx, .int .i64 qy]] w fun e w' => e = .returned (.bool true) ∧ Below w.heap.size w w' := by
  have W0 := Lib.hid (b_alloc (b_alloc (Below.refl w.heap.size w) (.cells #[.slice (some ⟨b, off, none⟩) n c, aw] 43)) (.cells #[.int .i64 qx, .int .i64 qy] 23))
  have Q0 := Lib.hid (p2_after w (.cells #[.slice (some ⟨b, off, none⟩) n c, aw] 43) 23 qx qy)
  have B0 := Lib.hid (p2v_keep (b_alloc (Below.refl _ _) (.cells #[.int .i64 qx, .int .i64 qy] 23)) (p2v_new w 43 (.slice (some ⟨b, off, none⟩) n c) aw))
  go_enter Try.func9, Try.ntmps9
  go_wp2_with fail
  (with_reducible refine (chartWorks _).mono ?_); rintro e w1 ⟨rfl, hb⟩
  have W1 := Lib.hid (b_next W0.out hb); have Q1 := Lib.hid (p2_keep hb Q0.out); have B1 := Lib.hid (p2v_keep hb B0.out); clear hb
  obtain ⟨a0, a1⟩ := Q1.out; obtain ⟨x0, x1⟩ := B1.out
  go_wp2_with fail
  (with_reducible refine (NR.out _ W1.out).mono ?_); rintro e w2 ⟨rfl, hb⟩
  have W2 := Lib.hid (b_next W1.out hb); have Q2 := Lib.hid (p2_keep hb Q1.out); have B2 := Lib.hid (p2v_keep hb B1.out); clear hb a0 a1 x0 x1
  obtain ⟨a0, a1⟩ := Q2.out; obtain ⟨x0, x1⟩ := B2.out
  go_wp2_with fail
  (with_reducible refine (FI.out _ W2.out).mono ?_); rintro e w3 ⟨rfl, hb⟩
  have W3 := Lib.hid (b_next W2.out hb); have Q3 := Lib.hid (p2_keep hb Q2.out); have B3 := Lib.hid (p2v_keep hb B2.out); clear hb a0 a1 x0 x1
  obtain ⟨x0, x1⟩ := B3.out
  have hal := b_alloc (Below.refl w3.heap.size w3) (.cells #[.string (N j), .int .i64 (X j), .int .i64 (Y j)] 53)
  have S4 := Lib.hid (s3_new w3 53 (N j) (X j) (Y j)); have W4 := Lib.hid (b_next W3.out hal); have Q4 := Lib.hid (p2_keep hal Q3.out); have nn := new_ne x0
  clear hal
  obtain ⟨w4, hw4⟩ : ∃ w4, w4 = w3.alloc (.cells #[.string (N j), .int .i64 (X j), .int .i64 (Y j)] 53) := ⟨_, rfl⟩
  go_wp2_with fail
  rw [← hw4] at S4 W4 Q4 ⊢
  clear hw4
  go_loopw [34] (fun s wr => ∃ k : Nat, k ≤ n ∧ s = .int .i64 k ∧ Below w4.heap.size w4 wr) (fun s _ => n - (intOf s).toNat)
  case atStart => exact ⟨0, Nat.zero_le _, rfl, Below.refl _ _⟩
  case round =>
    obtain ⟨k, hk, rfl, hbl⟩ := hrel
    have HB := Lib.hid hbl
    clear x0 x1 nn
    by_cases hlt : k < n
    · have hl : (k : Int) < (n : Int) := by omega
      obtain ⟨f0, f1, f2⟩ := e3_keep (b_next W4.out hbl) (HF.out k hlt)
      have al := b_alloc (Below.refl wr.heap.size wr) (.cells #[.string (N k), .int .i64 (X k), .int .i64 (Y k)] 53)
      have S10 := Lib.hid (s3_new wr 53 (N k) (X k) (Y k))
      have S7 := Lib.hid (s3_keep al (s3_keep hbl S4.out)); have Q7 := Lib.hid (p2_keep al (p2_keep hbl Q4.out)); have HB2 := Lib.hid (b_next hbl al)
      have SQ1 := Lib.hid (SQ.out k hlt); have SQ2 := Lib.hid (SQ.out j hj)
      have be := BE.out k hlt
      unfold clo at be
      rw [Bool.or_eq_false_iff, decide_eq_false_iff_not] at be
      have be1 : ¬ sqr qx qy (X k) (Y k) < sqr qx qy (X j) (Y j) := be.1
      have be2 : sqr qx qy (X k) (Y k) = sqr qx qy (X j) (Y j) → Op.bytesLess (N k).toList (N j).toList = false := fun h => by
        have h2 := be.2
        rw [decide_eq_true h, Bool.true_and] at h2; exact h2
      clear al hbl be
      generalize sqr qx qy (X k) (Y k) = dk at *
      generalize sqr qx qy (X j) (Y j) = dj at *
      generalize N k = nk at *
      generalize X k = xk at *
      generalize Y k = yk at *
      generalize N j = nj at *
      generalize X j = xj at *
      generalize Y j = yj at *
      have BE2 := Lib.hid be2; clear be2
      go_wp2_with fail
      refine d_region (by kernel_rfl) (by kernel_rfl) ?_
      repeat
        first
          | (refine d_plain (by with_reducible rfl) ?_; apply Exists.intro; refine ⟨fun wq hc hq => ?_, ?_⟩)
          | (refine d_on (by with_reducible rfl) (by rfl) (by with_reducible rfl) ?_; apply Exists.intro; refine ⟨fun wq hc hq => ?_, ?_⟩)
          | (refine d_off (by with_reducible rfl) (by rfl) (by rfl) ?_)
          | (refine d_void (by with_reducible rfl) (by rfl) ?_)
        try any_goals
          (obtain ⟨a0, a1⟩ := p2_keep (cls hq) Q7.out; obtain ⟨x0, x1, x2⟩ := s3_keep (cls hq) S10.out; obtain ⟨y0, y1, y2⟩ := s3_keep (cls hq) S7.out; clear hc
           go_simp
           first
             | rfl
             | (go_at_call 29; with_reducible exact call_below hq (SQ1.out _))
             | (go_at_call 29; with_reducible exact call_below hq (SQ2.out _)))
        simp only [Act.put, List.setIfInBounds_toArray, List.set_cons_zero, List.set_cons_succ]
      refine d_nil ?_
      intro w8 hb8
      have HB5 := Lib.hid (b_next HB2.out hb8); obtain ⟨x0, x1, x2⟩ := s3_keep hb8 S10.out; clear hb8 f0 f1 f2
      by_cases c2 : dk = dj
      · have be2 := BE2.out c2
        have e2 : (dk == dj) = true := by simp [c2]
        go_wp2_with fail
        exact ⟨⟨k + 1, by omega, by go_num, HB5.out⟩, by simp [intOf]; omega⟩
      · have e2 : (dk == dj) = false := by simp [c2]
        go_wp2_with fail
        exact ⟨⟨k + 1, by omega, by go_num, HB5.out⟩, by simp [intOf]; omega⟩
    · have hl : ¬ (k : Int) < (n : Int) := by omega
      obtain ⟨y0, y1, y2⟩ := s3_keep hbl S4.out
      have W9 := Lib.hid (b_next W4.out hbl); clear hbl
      have ss : ((N j).toList == (N j).toList) = true := by simp
      go_wp2_with fail
      all_goals (go_ret; exact ⟨by first | rfl | exact retb rfl, W9.out⟩)
theorem sqr_comm (ax ay bx by' : Int) : sqr ax ay bx by' = sqr bx by' ax ay := by
  unfold sqr
  rw [show ax - bx = -(bx - ax) from by omega, show ay - by' = -(by' - ay) from by omega, Int.neg_mul_neg, Int.neg_mul_neg]
theorem walk (c_fixes : Value) (c_airways : Value) (at_x : Int) (at_y : Int) (W : World) (h_c_fixes : Frame.Okc W (.sl [.str, .int, .int]) c_fixes) (h_c_airways : Frame.Okc W (.sl [.str, .sl [.str]]) c_airways) (_h_at_x : -9223372036854775808 ≤ at_x ∧ at_x ≤ 9223372036854775807) (_h_at_y : -9223372036854775808 ≤ at_y ∧ at_y ≤ 9223372036854775807) :
    Calls Try.prog 9 #[.agg #[c_fixes, c_airways], .agg #[.int .i64 at_x, .int .i64 at_y]] W fun e w' => e = .returned (.bool true) ∧ Below W.heap.size W w' := by
  obtain ⟨n, N, X, Y, m, M, l, S, hv⟩ := cv_of h_c_fixes h_c_airways
  have hN : NeC c_fixes c_airways at_x at_y (nearR (cerr n N X Y m M l S) n N X Y at_x at_y).1 (nearR (cerr n N X Y m M l S) n N X Y at_x at_y).2 W := fun w1 hb => nearC (cv_keep hb hv) at_x at_y
  unfold nearR at hN
  by_cases hE : cerr n N X Y m M l S ≠ 0
  · rw [if_pos hE] at hN
    exact bad c_fixes c_airways at_x at_y _ W hE (Lib.hid hN)
  rw [if_neg hE] at hN
  have hE0 := Classical.not_not.1 hE
  obtain ⟨h64, -, hfe, -⟩ := cerr_ok hE0
  by_cases hg : goodB at_x at_y = false
  · rw [if_pos hg] at hN
    exact bad c_fixes c_airways at_x at_y _ W (by decide) (Lib.hid hN)
  rw [if_neg hg] at hN
  by_cases h0 : n = 0
  · rw [if_pos h0] at hN
    exact bad c_fixes c_airways at_x at_y _ W (by decide) (Lib.hid hN)
  rw [if_neg h0] at hN
  have gq := goodB_iff.1 (by simpa using hg : goodB at_x at_y = true)
  have hj := bst_lt (d := fun k => sqr at_x at_y (X k) (Y k)) (N := N) (by omega : 0 < n) n (Nat.le_refl _)
  have hbest := bst_best (d := fun k => sqr at_x at_y (X k) (Y k)) (N := N) n
  generalize bst (fun k => sqr at_x at_y (X k) (Y k)) N n = j at *
  obtain ⟨fx', aw', e, h1, -⟩ := hv.ex
  have e' : c_fixes = fx' ∧ c_airways = aw' := by simpa using e
  obtain ⟨rfl, rfl⟩ := e'
  obtain ⟨b, off, cap, rfl, hc1, hc2, hF⟩ := fv_at h1 (by omega)
  have hfix : fix N (N j) n = (j : Int) := by
    have h2 := (fe_ok (hfe j hj)).2.1
    obtain ⟨p, hp1, hp2, hp3, hp4⟩ := fnd_pos (p := fun k => decide (N k = N j)) (n := n) (by show 0 ≤ fix N (N j) n; omega)
    have hp2 : fix N (N j) n = (p : Int) := hp2
    rcases Nat.lt_or_ge j p with hl | hl
    · have := hp4 j hl
      simp at this
    · omega
  refine ok b off n cap j c_airways N X Y at_x at_y W hj h64 hc1 (Nat.le_trans hc2 (by decide)) (Lib.hid hN) (Lib.hid hF) (Lib.hid fun w1 hb => ?_) (Lib.hid fun k hk w1 => ?_) (Lib.hid hbest)
  · refine find_ok b off n cap j c_airways N X Y (N j) w1 hj hc1 (Nat.le_trans hc2 (by decide)) (Lib.hid fun w2 hb2 => ?_) (Lib.hid fun k hk => e3_keep hb (hF k hk)) (Lib.hid fun w2 hb2 => ?_)
    · have := checkC (cv_keep (b_next hb hb2) hv)
      rw [hE0] at this; exact this
    · have := indexC (aw := c_airways) (fv_keep (b_next hb hb2) h1) (N j)
      rw [hfix] at this; exact this
  · have gk := (fe_ok (hfe k hk)).2.2
    rw [sqr_comm]
    exact square (X k) (Y k) at_x at_y w1 rfl (by unfold good at *; omega)
-- FRAME --

set_option maxRecDepth 100000 in
theorem lifted (os : Os) (started : os.Started) (H : Type) (enc : TypeId × Value → H) :
    ReturnsInHanded {} Try.checked os 9 .any (Rows.chartNearSpec.pre6 enc Try.prog Try.f9 Rows.chartNearRow.domain false) (Rows.chartNearSpec.post enc Try.prog Try.f9 false true false false) :=
  Frame.lifted (C := Try.checked) 9 Try.f9 Try.own started (by kernel_rfl) Try.func9 Try.laidOut rfl (by kernel_rfl) 4 rfl Try.underlying4
      (fun ds h => by match ds, h with | [_, _], _ => rfl)
      (ChangeSpec.witness6 (enc := enc) (C := Try.checked) false ⟨#[], #[.agg #[.slice none 0 0, .slice none 0 0], .agg #[.int .i64 0, .int .i64 0]], []⟩ 8 (by kernel_rfl) (by kernel_rfl) (by kernel_rfl) (by kernel_rfl))
      (fun W base args ds ps hval0 hA _ => by
        have hval : ∀ (j : Nat) t v, Try.f9.params[j]? = some t → args[j]? = some v → Value.okWide Try.prog W .any base t v := hval0
        have hA' : DataW.TrodAll enc Try.prog W 0 (fun _ => true) true Try.f9.params.toList args.toList ds ps := hA
        clear hval0 hA
        have hA := hA'
        clear hA'
        rw [Try.params9] at hA hval
        obtain ⟨v0, vs0, d0, ds0, p0, q0, ea, rfl, rfl, tr0, rest0⟩ := trodAll_cons hA
        obtain ⟨v1, vs1, d1, ds1, p1, q1, rfl, rfl, rfl, tr1, rest1⟩ := trodAll_cons rest0
        obtain ⟨rfl, rfl, rfl⟩ := trodAll_nil rest1
        obtain rfl : args = #[v0, v1] := by cases args; simp_all
        clear ea
        obtain ⟨cs_c, e_c, hl_c, hc_c⟩ := Frame.arg_agg Try.underlying43 (k := 8) (ks := [.sl [.str, .int, .int], .sl [.str, .sl [.str]]]) (by kernel_rfl) (hval 0 _ v0 rfl rfl) tr0
        subst e_c
        obtain ⟨c_c_fixes, c_c_airways, rfl⟩ : ∃ c_c_fixes c_c_airways, cs_c = [c_c_fixes, c_c_airways] := by match cs_c, hl_c with | [x0, x1], _ => exact ⟨x0, x1, rfl⟩
        have o_c_fixes : Frame.Okc W (.sl [.str, .int, .int]) c_c_fixes := hc_c 0 (by decide) (by simp)
        have o_c_airways : Frame.Okc W (.sl [.str, .sl [.str]]) c_c_airways := hc_c 1 (by decide) (by simp)
        obtain ⟨cs_at, e_at, hl_at, hc_at⟩ := Frame.arg_agg Try.underlying23 (k := 8) (ks := [.int, .int]) (by kernel_rfl) (hval 1 _ v1 rfl rfl) tr1
        subst e_at
        obtain ⟨c_at_x, c_at_y, rfl⟩ : ∃ c_at_x c_at_y, cs_at = [c_at_x, c_at_y] := by match cs_at, hl_at with | [x0, x1], _ => exact ⟨x0, x1, rfl⟩
        have o_at_x : Frame.Okc W (.int) c_at_x := hc_at 0 (by decide) (by simp)
        obtain ⟨at_x, e_at_x, w_at_x⟩ := o_at_x.int_inv; subst e_at_x
        have o_at_y : Frame.Okc W (.int) c_at_y := hc_at 1 (by decide) (by simp)
        obtain ⟨at_y, e_at_y, w_at_y⟩ := o_at_y.int_inv; subst e_at_y
        exact walk c_c_fixes c_c_airways at_x at_y W o_c_fixes o_c_airways w_at_x w_at_y)

/-- The statement. -/
theorem proved : Rows.ChartNearSaid :=
  OpenClaim.holds_of_wide 9 Try.f9 rfl rfl rfl rfl rfl rfl rfl ⟨rfl, rfl, rfl, rfl, rfl⟩ rfl rfl rfl rfl rfl (by kernel_rfl) Try.func9 (by kernel_rfl)
    (of_decide_eq_true (by kernel_rfl)) (by unfold Func.isWrapper; first | (rw [if_pos (by decide +kernel)]; kernel_rfl) | (rw [if_neg (by decide +kernel)]; exact ⟨rfl, rfl⟩))
    (fun os started H enc _ => lifted os started H enc)
#print axioms proved
end ChartNear
end Go.Proofs.Ytlgdcpkjobbnnaa

