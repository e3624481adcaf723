/- ChartLengths: the lengths of two parts of a way add up to that of the way. For every input. -/
import Derived.Test.YtlgdcpkjobbnnaaChO
namespace Go.Proofs.Ytlgdcpkjobbnnaa
open Go.RowKit Go.ChangeShapes Go.WideShapes
namespace ChartLengths
open Kit Plane Poly Chart
theorem lsum_add {D D' : Nat → Int} {k : Nat} (h : ∀ j, 0 < j → D' j = D (k + j)) : ∀ j, lsum D (k + 1) + lsum D' (j + 1) = lsum D (k + (j + 1))
  | 0 => by show lsum D (k + 1) + 0 = lsum D (k + 1); omega
  | j + 1 => by
    have ih := lsum_add h j
    have e1 : lsum D' (j + 1 + 1) = lsum D' (j + 1) + D' (j + 1) := by
      show (if j + 1 = 0 then 0 else lsum D' (j + 1) + D' (j + 1)) = _
      rw [if_neg (by omega)]
    have e2 : lsum D (k + (j + 1 + 1)) = lsum D (k + (j + 1)) + D (k + (j + 1)) := by
      show (if k + (j + 1) = 0 then 0 else lsum D (k + (j + 1)) + D (k + (j + 1))) = _
      rw [if_neg (by omega)]
    rw [e1, e2, h (j + 1) (by omega)]
    omega
abbrev LeC (fx aw v : Value) (L E : Int) (w : World) : Prop := ∀ w1, Below w.heap.size w w1 → Calls Try.prog 26 #[.agg #[fx, aw], v] w1 fun e w' => e = .returned (.tuple #[.int .i64 L, .int .i64 E]) ∧ Below w1.heap.size w1 w'
set_option maxHeartbeats 2000000 in
/-- No name, or an error. -/
theorem none_ (fx aw : Value) (A : Option Addr) (c : Nat) (k E : Int) (w : World) (hc : c ≤ 9223372036854775807) (hA : A = none → c = 0) (L : Hid (LeC fx aw (.slice A 0 c) 0 E w)) :
    Calls Try.prog 8 #[.agg #[fx, aw], .slice A 0 c, .int .i64 k] w fun e w' => e = .returned (.bool true) ∧ Below w.heap.size w w' := by
  have W0 := Lib.hid (b_alloc (Below.refl w.heap.size w) (.cells #[fx, aw] 43))
  have BX0 := Lib.hid (p2v_new w 43 fx aw)
  go_enter Try.func8, Try.ntmps8
  cases A with
  | none =>
    obtain rfl := hA rfl
    go_wp2_with fail
    (with_reducible refine (chartWorks _).mono ?_); rintro e w1 ⟨rfl, hb⟩
    have W1 := Lib.hid (b_next W0.out hb); have BX1 := Lib.hid (p2v_keep hb BX0.out); clear hb
    obtain ⟨x0, x1⟩ := BX1.out
    go_wp2_with fail
    (with_reducible refine (L.out _ W1.out).mono ?_); rintro e w2 ⟨rfl, hb⟩
    have W2 := Lib.hid (b_next W1.out hb); clear hb
    by_cases hE : E = 0
    · subst hE
      go_wp2_with fail
      all_goals (go_ret; exact ⟨by first | rfl | exact retb rfl, W2.out⟩)
    · have z1 : (E == 0) = false := by simp [hE]
      have z2 : (E != 0) = true := by simp [hE]
      go_wp2_with fail
      all_goals (go_ret; exact ⟨by first | rfl | exact retb rfl, W2.out⟩)
  | some a =>
    go_wp2_with fail
    (with_reducible refine (chartWorks _).mono ?_); rintro e w1 ⟨rfl, hb⟩
    have W1 := Lib.hid (b_next W0.out hb); have BX1 := Lib.hid (p2v_keep hb BX0.out); clear hb
    obtain ⟨x0, x1⟩ := BX1.out
    go_wp2_with fail
    (with_reducible refine (L.out _ W1.out).mono ?_); rintro e w2 ⟨rfl, hb⟩
    have W2 := Lib.hid (b_next W1.out hb); clear hb
    by_cases hE : E = 0
    · subst hE
      go_wp2_with fail
      all_goals (go_ret; exact ⟨by first | rfl | exact retb rfl, W2.out⟩)
    · have z1 : (E == 0) = false := by simp [hE]
      have z2 : (E != 0) = true := by simp [hE]
      go_wp2_with fail
      all_goals (go_ret; exact ⟨by first | rfl | exact retb rfl, W2.out⟩)
set_option maxHeartbeats 4000000 in
theorem bad (fx aw : Value) (b off r q c : Nat) (k E : Int) (w : World) (hc : c ≤ 9223372036854775807) (hr : 0 < r) (hrc : r ≤ c) (hq : min (r : Int) 12 = (q : Int)) (hE : E ≠ 0) (L : Hid (LeC fx aw (.slice (some ⟨b, off, none⟩) q c) 0 E w)) :
    Calls Try.prog 8 #[.agg #[fx, aw], .slice (some ⟨b, off, none⟩) r c, .int .i64 k] w fun e w' => e = .returned (.bool true) ∧ Below w.heap.size w w' := by
  have W0 := Lib.hid (b_alloc (Below.refl w.heap.size w) (.cells #[fx, aw] 43))
  have BX0 := Lib.hid (p2v_new w 43 fx aw)
  have z1 : (E == 0) = false := by simp [hE]
  have z2 : (E != 0) = true := by simp [hE]
  go_enter Try.func8, Try.ntmps8
  rcases (show (r ≤ 12 ∧ q = r) ∨ (12 < r ∧ q = 12) by omega) with ⟨h1, rfl⟩ | ⟨h1, rfl⟩
  all_goals
    go_wp2_with fail
    (with_reducible refine (chartWorks _).mono ?_); rintro e w1 ⟨rfl, hb⟩
    have W1 := Lib.hid (b_next W0.out hb); have BX1 := Lib.hid (p2v_keep hb BX0.out); clear hb
    obtain ⟨x0, x1⟩ := BX1.out
    go_wp2_with fail
    (with_reducible refine (L.out _ W1.out).mono ?_); rintro e w2 ⟨rfl, hb⟩
    have W2 := Lib.hid (b_next W1.out hb); clear hb
    go_wp2_with fail
    all_goals (go_ret; exact ⟨by first | rfl | exact retb rfl, W2.out⟩)
set_option maxRecDepth 100000 in
set_option maxHeartbeats 4000000 in
theorem ok (fx aw : Value) (b off r q c j : Nat) (k L1 L2 L3 : Int) (w : World) (hc : c ≤ 9223372036854775807) (hr : 0 < r) (hrc : r ≤ c) (hq : min (r : Int) 12 = (q : Int)) (hj : j < q) (D : Int) (HK : Hid (k.tmod (q : Int) = D ∧ (D + (q : Int)).tmod (q : Int) = (j : Int) ∧ -(q : Int) < D ∧ D < (q : Int))) (hL : L2 + L3 = L1) (hb2 : 0 ≤ L2 ∧ L2 ≤ 1000000000000) (hb3 : 0 ≤ L3 ∧ L3 ≤ 1000000000000) (L : Hid (LeC fx aw (.slice (some ⟨b, off, none⟩) q c) L1 0 w))
    (LA : Hid (LeC fx aw (.slice (some ⟨b, off, none⟩) (j + 1) c) L2 0 w)) (LB : Hid (LeC fx aw (.slice (some ⟨b, off + j, none⟩) (q - j) (c - j)) L3 0 w)) :
    Calls Try.prog 8 #[.agg #[fx, aw], .slice (some ⟨b, off, none⟩) r c, .int .i64 k] w fun e w' => e = .returned (.bool true) ∧ Below w.heap.size w w' := by
  have W0 := Lib.hid (b_alloc (Below.refl w.heap.size w) (.cells #[fx, aw] 43))
  have BX0 := Lib.hid (p2v_new w 43 fx aw)
  go_enter Try.func8, Try.ntmps8
  rcases (show (r ≤ 12 ∧ q = r) ∨ (12 < r ∧ q = 12) by omega) with ⟨h1, rfl⟩ | ⟨h1, rfl⟩
  all_goals
    go_wp2_with fail
    (with_reducible refine (chartWorks _).mono ?_); rintro e w1 ⟨rfl, hb⟩
    have W1 := Lib.hid (b_next W0.out hb); have BX1 := Lib.hid (p2v_keep hb BX0.out); clear hb
    obtain ⟨x0, x1⟩ := BX1.out
    go_wp2_with fail
    (with_reducible refine (L.out _ W1.out).mono ?_); rintro e w2 ⟨rfl, hb⟩
    have W2 := Lib.hid (b_next W1.out hb); have BX2 := Lib.hid (p2v_keep hb BX1.out); clear hb x0 x1
    obtain ⟨d1, d2, d3, d4⟩ := HK.out
    try (replace d1 : k.tmod 12 = D := d1; replace d2 : (D + 12).tmod 12 = (j : Int) := d2; replace d3 : -12 < D := d3; replace d4 : D < 12 := d4)
    have e12 : (j : Int) < 13 := by omega
    try (have e13 : (j : Int) ≤ 12 := by omega)
    obtain ⟨J, hJ⟩ : ∃ J, J = j + 1 := ⟨_, rfl⟩
    rw [← hJ] at LA
    have v1 : IntKind.i64.wrap ((j : Int) + 1) = (J : Int) := by rw [IntWalk.i64_in _ (by omega)]; omega
    have v3 : (j : Int) + 1 = (J : Int) := by omega
    have v4 : IntKind.i64.wrap (J : Int) = (J : Int) := IntWalk.i64_in _ (by omega)
    have g0 : J ≤ c := by omega
    clear hJ
    have g1 : j + 1 ≤ c := by omega
    have g2 : j ≤ c := by omega
    have g3 : ¬ c = j := by omega
    have hjq' := Nat.le_of_lt hj
    go_wp2_with fail
    refine d_region (by kernel_rfl) (by kernel_rfl) ?_
    repeat
      first
        | (refine d_plain (by with_reducible rfl) ?_; apply Exists.intro; refine ⟨fun wq hc hq => ?_, ?_⟩)
        | (refine d_on (by with_reducible rfl) (by rfl) (by with_reducible rfl) ?_; apply Exists.intro; refine ⟨fun wq hc hq => ?_, ?_⟩)
        | (refine d_off (by with_reducible rfl) (by rfl) (by rfl) ?_)
        | (refine d_void (by with_reducible rfl) (by rfl) ?_)
      try any_goals
        (obtain ⟨b0, b1⟩ := p2v_keep (cls hq) BX2.out; clear hc
         go_simp
         first
           | rfl
           | (go_at_call 26; with_reducible exact call_below hq (LA.out _ (b_next W2.out (cls hq)))))
      simp only [Act.put, List.setIfInBounds_toArray, List.set_cons_zero, List.set_cons_succ]
    refine d_nil ?_
    intro w3 hb3
    have W3 := Lib.hid (b_next W2.out hb3); have BX3 := Lib.hid (p2v_keep hb3 BX2.out); clear hb3
    go_wp2_with fail
    refine d_region (by kernel_rfl) (by kernel_rfl) ?_
    repeat
      first
        | (refine d_plain (by with_reducible rfl) ?_; apply Exists.intro; refine ⟨fun wq hc hq => ?_, ?_⟩)
        | (refine d_on (by with_reducible rfl) (by rfl) (by with_reducible rfl) ?_; apply Exists.intro; refine ⟨fun wq hc hq => ?_, ?_⟩)
        | (refine d_off (by with_reducible rfl) (by rfl) (by rfl) ?_)
        | (refine d_void (by with_reducible rfl) (by rfl) ?_)
      try any_goals
        (obtain ⟨b0, b1⟩ := p2v_keep (cls hq) BX3.out; clear hc
         go_simp
         first
           | rfl
           | (go_at_call 26; with_reducible exact call_below hq (LB.out _ (b_next W3.out (cls hq)))))
      simp only [Act.put, List.setIfInBounds_toArray, List.set_cons_zero, List.set_cons_succ]
    refine d_nil ?_
    intro w4 hb4
    have W4 := Lib.hid (b_next W3.out hb4); clear hb4
    go_wp2_with fail
    all_goals (go_ret; exact ⟨by first | rfl | exact retb (by omega), W4.out⟩)
theorem walk (c_fixes : Value) (c_airways : Value) (names : Value) (k : Int) (W : World) (h_c_fixes : Frame.Okc W (.sl [.str, .int, .int]) c_fixes) (h_c_airways : Frame.Okc W (.sl [.str, .sl [.str]]) c_airways) (h_names : Frame.Okc W (.sl [.str]) names) (_h_k : -9223372036854775808 ≤ k ∧ k ≤ 9223372036854775807) :
    Calls Try.prog 8 #[.agg #[c_fixes, c_airways], names, .int .i64 k] W fun e w' => e = .returned (.bool true) ∧ Below W.heap.size W w' := by
  obtain ⟨n, N, X, Y, m, M, l, S, hv⟩ := cv_of h_c_fixes h_c_airways
  obtain ⟨r, T, hs⟩ := sv_of h_names
  generalize hE : cerr n N X Y m M l S = E
  have LE : ∀ (v : Value) (r : Nat) (T : Nat → ByteArray), SV W v r T → LeC c_fixes c_airways v (lenR E n N X Y r T).1 (lenR E n N X Y r T).2 W := fun v r T h w1 hb => by
    have := lengthC (cv_keep hb hv) (sv_keep hb h)
    rw [hE] at this; exact this
  have key : ∀ r (T : Nat → ByteArray), (lenR E n N X Y r T).2 ≠ 0 → (lenR E n N X Y r T).1 = 0 := fun r T h => by
    unfold lenR at h ⊢
    split
    · rfl
    · split
      · rfl
      · split
        · rfl
        · rename_i h1 h2 h3
          rw [if_neg h1, if_neg h2, if_neg h3] at h
          exact absurd rfl h
  have zero : ∀ (T : Nat → ByteArray), (lenR E n N X Y 0 T).1 = 0 := fun T => by
    unfold lenR
    split
    · rfl
    · rfl
  rcases hs with ⟨rfl, h⟩ | ⟨h0, b, off, c, rfl, hc1, hc2, hcs⟩
  · have hn := LE names 0 T (Or.inl ⟨rfl, h⟩)
    rw [zero] at hn
    rcases h with rfl | ⟨a, c, rfl, hc⟩
    · exact none_ c_fixes c_airways none 0 k _ W (by omega) (fun _ => rfl) (Lib.hid hn)
    · exact none_ c_fixes c_airways (some a) c k _ W (Nat.le_trans hc (by decide)) (fun h => by cases h) (Lib.hid hn)
  · obtain ⟨q, hq⟩ : ∃ q : Nat, q = min r 12 := ⟨_, rfl⟩
    have hq' : min (r : Int) 12 = (q : Int) := by omega
    have hc3 : c ≤ 9223372036854775807 := Nat.le_trans hc2 (by decide)
    have L1 := LE _ q T (sv_take hcs hc1 hc2 (show q ≤ r by omega))
    by_cases hz : (lenR E n N X Y q T).2 = 0
    · have hq0 : 0 < q := by omega
      have hz' := hz
      unfold lenR at hz'
      by_cases hE0 : E ≠ 0
      · rw [if_pos hE0] at hz'; exact absurd hz' hE0
      rw [if_neg hE0] at hz'
      have hE1 := Classical.not_not.1 hE0
      have h64 : ¬ 64 < q := by omega
      rw [if_neg h64] at hz'
      by_cases hf : ferr (lerr n N T) q ≠ 0
      · rw [if_pos hf] at hz'; exact absurd hz' (by decide)
      have hf0 := ferr_inv (Classical.not_not.1 hf)
      have val : ∀ r' (T' : Nat → ByteArray), r' ≤ 12 → (∀ j, j < r' → lerr n N T' j = 0) → lenR E n N X Y r' T' = (lsum (stp n N X Y T') r', 0) := fun r' T' h1 h2 => by
        unfold lenR
        rw [if_neg hE0, if_neg (by omega), if_neg (by rw [ferr_zero h2]; decide)]
      have hn0 : 0 < n := by
        rcases Nat.eq_zero_or_pos n with h | h
        · subst h
          have := hf0 0 hq0
          unfold lerr at this
          rw [show fix N (T 0) 0 = -1 from rfl, if_pos (by decide)] at this
          exact absurd this (by decide)
        · exact h
      have hg : ∀ k, k < n → good (X k) (Y k) := fun k hk => (fe_ok ((cerr_ok (hE.trans hE1)).2.2.1 k hk)).2.2
      obtain ⟨D, hD⟩ : ∃ D, k.tmod (q : Int) = D := ⟨_, rfl⟩
      have hqi : (0 : Int) < (q : Int) := by omega
      have d3 : -(q : Int) < D := by rw [← hD]; exact Int.neg_lt_of_neg_lt (by have := Int.tmod_lt_of_pos (-k) hqi; rw [Int.neg_tmod] at this; omega)
      have d4 : D < (q : Int) := by rw [← hD]; exact Int.tmod_lt_of_pos k hqi
      obtain ⟨j, hj⟩ : ∃ j : Nat, (D + (q : Int)).tmod (q : Int) = (j : Int) := ⟨((D + (q : Int)).tmod (q : Int)).toNat, by
        have := Int.tmod_nonneg (q : Int) (show 0 ≤ D + (q : Int) by omega); omega⟩
      have hjq : j < q := by have := Int.tmod_lt_of_pos (D + (q : Int)) hqi; omega
      have LA := LE _ (j + 1) T (sv_take hcs hc1 hc2 (show j + 1 ≤ r by omega))
      have LB := LE (.slice (some ⟨b, off + j, none⟩) (q - j) (c - j)) (q - j) (fun i => T (j + i)) (Or.inr ⟨by omega, b, off + j, c - j, rfl, by omega, by omega, fun i hi => by
        have := hcs (j + i) (by omega)
        rw [← Nat.add_assoc] at this; exact this⟩)
      rw [val q T (by omega) hf0] at L1
      rw [val (j + 1) T (by omega) (fun i hi => hf0 i (by omega))] at LA
      rw [val (q - j) (fun i => T (j + i)) (by omega) (fun i hi => hf0 (j + i) (by omega))] at LB
      have sb := fun (T' : Nat → ByteArray) (i : Nat) => lsum_bd (D := stp n N X Y T') (fun i => stp_bd hn0 hg i) i
      have s2 := sb T (j + 1); have s3 := sb (fun i => T (j + i)) (q - j)
      refine ok c_fixes c_airways b off r q c j k _ _ _ W hc3 h0 hc1 hq' hjq D (Lib.hid ⟨hD, hj, d3, d4⟩) ?_ (by omega) (by omega) (Lib.hid L1) (Lib.hid LA) (Lib.hid LB)
      have := lsum_add (D := stp n N X Y T) (D' := stp n N X Y (fun i => T (j + i))) (k := j) (fun i hi => by unfold stp; rw [show j + i - 1 = j + (i - 1) from by omega]) (q - j - 1)
      rw [show q - j - 1 + 1 = q - j from by omega, show j + (q - j) = q from by omega] at this
      exact this
    · rw [key q T hz] at L1
      exact bad c_fixes c_airways b off r q c k _ W hc3 h0 hc1 hq' hz (Lib.hid L1)
-- FRAME --

set_option maxRecDepth 100000 in
theorem lifted (os : Os) (started : os.Started) (H : Type) (enc : TypeId × Value → H) :
    ReturnsInHanded {} Try.checked os 8 .any (Rows.chartLengthsSpec.pre6 enc Try.prog Try.f8 Rows.chartLengthsRow.domain false) (Rows.chartLengthsSpec.post enc Try.prog Try.f8 false true false false) :=
  Frame.lifted (C := Try.checked) 8 Try.f8 Try.own started (by kernel_rfl) Try.func8 Try.laidOut rfl (by kernel_rfl) 4 rfl Try.underlying4
      (fun ds h => by match ds, h with | [_, _, _], _ => rfl)
      (ChangeSpec.witness6 (enc := enc) (C := Try.checked) false ⟨#[], #[.agg #[.slice none 0 0, .slice none 0 0], .slice none 0 0, .int .i64 0], []⟩ 8 (by kernel_rfl) (by kernel_rfl) (by kernel_rfl) (by kernel_rfl))
      (fun W base args ds ps hval0 hA _ => by
        have hval : ∀ (j : Nat) t v, Try.f8.params[j]? = some t → args[j]? = some v → Value.okWide Try.prog W .any base t v := hval0
        have hA' : DataW.TrodAll enc Try.prog W 0 (fun _ => true) true Try.f8.params.toList args.toList ds ps := hA
        clear hval0 hA
        have hA := hA'
        clear hA'
        rw [Try.params8] at hA hval
        obtain ⟨v0, vs0, d0, ds0, p0, q0, ea, rfl, rfl, tr0, rest0⟩ := trodAll_cons hA
        obtain ⟨v1, vs1, d1, ds1, p1, q1, rfl, rfl, rfl, tr1, rest1⟩ := trodAll_cons rest0
        obtain ⟨v2, vs2, d2, ds2, p2, q2, rfl, rfl, rfl, tr2, rest2⟩ := trodAll_cons rest1
        obtain ⟨rfl, rfl, rfl⟩ := trodAll_nil rest2
        obtain rfl : args = #[v0, v1, v2] := by cases args; simp_all
        clear ea
        obtain ⟨cs_c, e_c, hl_c, hc_c⟩ := Frame.arg_agg Try.underlying43 (k := 8) (ks := [.sl [.str, .int, .int], .sl [.str, .sl [.str]]]) (by kernel_rfl) (hval 0 _ v0 rfl rfl) tr0
        subst e_c
        obtain ⟨c_c_fixes, c_c_airways, rfl⟩ : ∃ c_c_fixes c_c_airways, cs_c = [c_c_fixes, c_c_airways] := by match cs_c, hl_c with | [x0, x1], _ => exact ⟨x0, x1, rfl⟩
        have o_c_fixes : Frame.Okc W (.sl [.str, .int, .int]) c_c_fixes := hc_c 0 (by decide) (by simp)
        have o_c_airways : Frame.Okc W (.sl [.str, .sl [.str]]) c_c_airways := hc_c 1 (by decide) (by simp)
        have sl_names : Frame.Okc W (.sl [.str]) v1 := by obtain ⟨a, l, c, e⟩ := okWide_slice Try.underlying44 (hval 1 _ v1 rfl rfl); exact Frame.arg_cell (k := 8) (by kernel_rfl) (by have e2 : v1 = .slice a l c := e; rw [e2]; rfl) tr1
        obtain ⟨k, rfl, w_k⟩ := Frame.arg_int Try.underlying3 (hval 2 _ v2 rfl rfl)
        exact walk c_c_fixes c_c_airways v1 k W o_c_fixes o_c_airways sl_names (Frame.bd w_k))

/-- The statement. -/
theorem proved : Rows.ChartLengthsSaid :=
  OpenClaim.holds_of_wide 8 Try.f8 rfl rfl rfl rfl rfl rfl rfl ⟨rfl, rfl, rfl, rfl, rfl⟩ rfl rfl rfl rfl rfl (by kernel_rfl) Try.func8 (by kernel_rfl)
    (of_decide_eq_true (by kernel_rfl)) (by unfold Func.isWrapper; first | (rw [if_pos (by decide +kernel)]; kernel_rfl) | (rw [if_neg (by decide +kernel)]; exact ⟨rfl, rfl⟩))
    (fun os started H enc _ => lifted os started H enc)
#print axioms proved
end ChartLengths
end Go.Proofs.Ytlgdcpkjobbnnaa

