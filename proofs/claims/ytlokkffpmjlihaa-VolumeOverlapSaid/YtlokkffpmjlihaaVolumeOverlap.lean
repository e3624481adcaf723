/- VolumeOverlap: two volumes overlap only if their areas do and a height is common; a volume overlaps itself. For every input. -/
import Derived.Test.YtlokkffpmjlihaaVolO
import Derived.Test.YtlokkffpmjlihaaVolV
namespace Go.Proofs.Ytlokkffpmjlihaa
open Go.RowKit Go.ChangeShapes Go.WideShapes
namespace VolumeOverlap
open Kit Plane Poly Vol Over
abbrev VoC (u : Value) (l1 h1 : Int) (v : Value) (l2 h2 : Int) (R : Bool) (G : Int) (w : World) : Prop := ∀ w1, Below w.heap.size w w1 → Calls Try.prog 30 #[.agg #[u, .int .i64 l1, .int .i64 h1], .agg #[v, .int .i64 l2, .int .i64 h2]] w1 fun e w' => e = .returned (.tuple #[.bool R, .int .i64 G]) ∧ Below w1.heap.size w1 w'
set_option maxRecDepth 100000 in
set_option maxHeartbeats 4000000 in
theorem has (A B : Option Addr) (n c m d : Nat) (l1 h1 l2 h2 : Int) (ob R : Bool) (G : Int) (w : World) (V1 : Hid (VoC (.slice A n c) l1 h1 (.slice B m d) l2 h2 R G w)) (V2 : Hid (G = 0 → VoC (.slice A n c) l1 h1 (.slice A n c) l1 h1 true 0 w)) (PO : Hid (G = 0 → PoC (.slice A n c) (.slice B m d) ob 0 w))
    (HB : Hid ((G ≠ 0 ∧ R = false) ∨ (G = 0 ∧ R = (ob && decide (max l1 l2 < min h1 h2)) ∧ l1 < h1 ∧ l2 < h2))) :
    Calls Try.prog 9 #[.agg #[.slice A n c, .int .i64 l1, .int .i64 h1], .agg #[.slice B m d, .int .i64 l2, .int .i64 h2]] w fun e w' => e = .returned (.bool true) ∧ Below w.heap.size w w' := by
  obtain ⟨w2, hw2⟩ : ∃ w2, w2 = (w.alloc (.cells #[.slice A n c, .int .i64 l1, .int .i64 h1] 48)).alloc (.cells #[.slice B m d, .int .i64 l2, .int .i64 h2] 48) := ⟨_, rfl⟩
  have W2 : Hid (Below w.heap.size w w2) := Lib.hid (by rw [hw2]; exact b_alloc (b_alloc (Below.refl _ _) _) _)
  have PA : Hid (V3 w2 w.heap.size (.slice A n c) l1 h1) := Lib.hid (by rw [hw2]; exact v3_keep (b_alloc (Below.refl _ _) _) (v3_new w _ _ l1 h1))
  have PB : Hid (V3 w2 (w.heap.size + 1) (.slice B m d) l2 h2) := Lib.hid (by
    have h := v3_new (w.alloc (.cells #[.slice A n c, .int .i64 l1, .int .i64 h1] 48)) 48 (.slice B m d) l2 h2
    rw [World.size_alloc] at h; rw [hw2]; exact h)
  have HW2 := Lib.hid hw2; clear hw2
  go_enter Try.func9, Try.ntmps9
  go_wp2_with fail
  rw [← HW2.out]
  refine (volumeWorks _).mono ?_; rintro e w3 ⟨rfl, hb⟩
  have W3 := Lib.hid (b_next W2.out hb); have A3 := Lib.hid (v3_keep hb PA.out); have B3 := Lib.hid (v3_keep hb PB.out)
  clear hb HW2 W2 PA PB
  obtain ⟨a0, a1, a2⟩ := A3.out
  obtain ⟨b0, b1, b2⟩ := B3.out
  go_wp2_with fail
  (with_reducible refine (V1.out _ W3.out).mono ?_); rintro e w4 ⟨rfl, hb⟩
  have W4 := Lib.hid (b_next W3.out hb); have A4 := Lib.hid (v3_keep hb A3.out); have B4 := Lib.hid (v3_keep hb B3.out)
  clear hb a0 a1 a2 b0 b1 b2
  rcases HB.out with ⟨hG, rfl⟩ | ⟨rfl, hR, hv1, hv2⟩
  · have e1 : (G == 0) = false := by simp [hG]
    have e2 : (G != 0) = true := by simp [hG]
    clear HB
    go_wp2_with fail
    all_goals (go_ret; exact ⟨by first | rfl | exact retb rfl, W4.out⟩)
  · have HR := Lib.hid hR
    have V2' := Lib.hid (V2.out rfl); have PO' := Lib.hid (PO.out rfl)
    clear HB V1 V2 PO hR
    obtain ⟨a0, a1, a2⟩ := A4.out
    obtain ⟨b0, b1, b2⟩ := B4.out
    go_wp2_with fail
    (with_reducible refine (PO'.out _ W4.out).mono ?_); rintro e w5 ⟨rfl, hb⟩
    have W5 := Lib.hid (b_next W4.out hb); have A5 := Lib.hid (v3_keep hb A4.out); have B5 := Lib.hid (v3_keep hb B4.out)
    clear hb a0 a1 a2 b0 b1 b2
    obtain ⟨a0, a1, a2⟩ := A5.out
    go_wp2_with fail
    (with_reducible refine (V2'.out _ W5.out).mono ?_); rintro e w6 ⟨rfl, hb⟩
    have W6 := Lib.hid (b_next W5.out hb); have A6 := Lib.hid (v3_keep hb A5.out); have B6 := Lib.hid (v3_keep hb B5.out)
    clear hb a0 a1 a2
    obtain ⟨a0, a1, a2⟩ := A6.out
    obtain ⟨b0, b1, b2⟩ := B6.out
    clear V2' PO'
    cases ob with
    | false =>
      have e := HR.out
      rw [Bool.false_and] at e
      subst e
      go_wp2_with fail
      all_goals (go_ret; exact ⟨by first | rfl | exact retb rfl, W6.out⟩)
    | true =>
      have e := HR.out
      rw [Bool.true_and] at e
      clear HR
      by_cases x1 : l1 < h2 <;> by_cases x2 : l2 < h1
      · rw [decide_eq_true (by omega)] at e
        subst e
        have y1 := decide_eq_true x1; have y2 := decide_eq_true x2
        go_wp2_with fail
        all_goals (go_ret; exact ⟨by first | rfl | exact retb rfl, W6.out⟩)
      all_goals
        rw [decide_eq_false (by omega)] at e
        subst e
        go_wp2_with fail
        all_goals first | (exfalso; omega) | (go_ret; exact ⟨by first | rfl | exact retb rfl | exact retb (by simp [x1, x2]), W6.out⟩)
theorem walk (v_area : Value) (v_low : Int) (v_high : Int) (w_area : Value) (w_low : Int) (w_high : Int) (W : World) (h_v_area : Frame.Okc W (.sl [.int, .int]) v_area) (_h_v_low : -9223372036854775808 ≤ v_low ∧ v_low ≤ 9223372036854775807) (_h_v_high : -9223372036854775808 ≤ v_high ∧ v_high ≤ 9223372036854775807) (h_w_area : Frame.Okc W (.sl [.int, .int]) w_area) (_h_w_low : -9223372036854775808 ≤ w_low ∧ w_low ≤ 9223372036854775807) (_h_w_high : -9223372036854775808 ≤ w_high ∧ w_high ≤ 9223372036854775807) :
    Calls Try.prog 9 #[.agg #[v_area, .int .i64 v_low, .int .i64 v_high], .agg #[w_area, .int .i64 w_low, .int .i64 w_high]] W fun e w' => e = .returned (.bool true) ∧ Below W.heap.size W w' := by
  obtain ⟨n, X, Y, hu, -⟩ := qv_of h_v_area
  obtain ⟨m, U, V, hv, -⟩ := qv_of h_w_area
  obtain ⟨B1, h1⟩ := bool_of (EntD n X Y m U V)
  obtain ⟨B2, h2⟩ := bool_of (EntD m U V n X Y)
  obtain ⟨B3, h3⟩ := bool_of (EntD n X Y n X Y)
  obtain ⟨A, c, eu, -, -⟩ := qv_slice hu
  obtain ⟨B, d, ev, -, -⟩ := qv_slice hv
  subst eu ev
  have hz : (voR n X Y v_low v_high m U V w_low w_high (ovR n X Y m U V B1 B2).1).2 = 0 → vck (pck n X Y) v_low v_high = 0 ∧ vck (pck m U V) w_low w_high = 0 := fun h => by
    unfold voR at h
    by_cases e1 : vck (pck n X Y) v_low v_high ≠ 0
    · rw [if_pos e1] at h; exact absurd h e1
    · rw [if_neg e1] at h
      by_cases e2 : vck (pck m U V) w_low w_high ≠ 0
      · rw [if_pos e2] at h; exact absurd h e2
      · exact ⟨Classical.not_not.1 e1, Classical.not_not.1 e2⟩
  refine has A B n c m d v_low v_high w_low w_high (ovR n X Y m U V B1 B2).1 _ _ W (Lib.hid fun w1 hb => voC (qv_keep hb hu) (qv_keep hb hv) v_low v_high w_low w_high h1 h2) (Lib.hid fun hG w1 hb => ?_) (Lib.hid fun hG w1 hb => ?_) (Lib.hid ?_)
  · have k := (hz hG).1
    have hc := voC (qv_keep hb hu) (qv_keep hb hu) v_low v_high v_low v_high h3 h3
    rw [ov_self h3 (vck_ok k).1] at hc
    have e : voR n X Y v_low v_high n X Y v_low v_high true = (true, 0) := by
      unfold voR
      rw [if_neg (fun h => h k), if_neg (fun h => h k), decide_eq_true (by have := (vck_ok k).2; omega)]
      rfl
    rw [e] at hc
    exact hc
  · obtain ⟨k1, k2⟩ := hz hG
    have hc := ov_full (qv_keep hb hu) (qv_keep hb hv) h1 h2
    have z : (ovR n X Y m U V B1 B2).2 = 0 := by
      unfold ovR
      rw [if_neg (fun h => h (vck_ok k1).1), if_neg (fun h => h (vck_ok k2).1)]
    rw [z] at hc; exact hc
  · by_cases hG : (voR n X Y v_low v_high m U V w_low w_high (ovR n X Y m U V B1 B2).1).2 = 0
    · obtain ⟨k1, k2⟩ := hz hG
      refine Or.inr ⟨hG, ?_, (vck_ok k1).2, (vck_ok k2).2⟩
      unfold voR
      rw [if_neg (fun h => h k1), if_neg (fun h => h k2)]
    · refine Or.inl ⟨hG, ?_⟩
      unfold voR at hG ⊢
      by_cases e1 : vck (pck n X Y) v_low v_high ≠ 0
      · rw [if_pos e1]
      · rw [if_neg e1] at hG ⊢
        by_cases e2 : vck (pck m U V) w_low w_high ≠ 0
        · rw [if_pos e2]
        · rw [if_neg e2] at hG; exact absurd rfl hG
-- FRAME --

set_option maxRecDepth 100000 in
theorem lifted (os : Os) (started : os.Started) (H : Type) (enc : TypeId × Value → H) :
    ReturnsInHanded {} Try.checked os 9 .any (Rows.volumeOverlapSpec.pre6 enc Try.prog Try.f9 Rows.volumeOverlapRow.domain false) (Rows.volumeOverlapSpec.post enc Try.prog Try.f9 false true false false) :=
  Frame.lifted (C := Try.checked) 9 Try.f9 Try.own started (by kernel_rfl) Try.func9 Try.laidOut rfl (by kernel_rfl) 4 rfl Try.underlying4
      (fun ds h => by match ds, h with | [_, _], _ => rfl)
      (ChangeSpec.witness6 (enc := enc) (C := Try.checked) false ⟨#[], #[.agg #[.slice none 0 0, .int .i64 0, .int .i64 0], .agg #[.slice none 0 0, .int .i64 0, .int .i64 0]], []⟩ 8 (by kernel_rfl) (by kernel_rfl) (by kernel_rfl) (by kernel_rfl))
      (fun W base args ds ps hval0 hA _ => by
        have hval : ∀ (j : Nat) t v, Try.f9.params[j]? = some t → args[j]? = some v → Value.okWide Try.prog W .any base t v := hval0
        have hA' : DataW.TrodAll enc Try.prog W 0 (fun _ => true) true Try.f9.params.toList args.toList ds ps := hA
        clear hval0 hA
        have hA := hA'
        clear hA'
        rw [Try.params9] at hA hval
        obtain ⟨v0, vs0, d0, ds0, p0, q0, ea, rfl, rfl, tr0, rest0⟩ := trodAll_cons hA
        obtain ⟨v1, vs1, d1, ds1, p1, q1, rfl, rfl, rfl, tr1, rest1⟩ := trodAll_cons rest0
        obtain ⟨rfl, rfl, rfl⟩ := trodAll_nil rest1
        obtain rfl : args = #[v0, v1] := by cases args; simp_all
        clear ea
        obtain ⟨cs_v, e_v, hl_v, hc_v⟩ := Frame.arg_agg Try.underlying48 (k := 8) (ks := [.sl [.int, .int], .int, .int]) (by kernel_rfl) (hval 0 _ v0 rfl rfl) tr0
        subst e_v
        obtain ⟨c_v_area, c_v_low, c_v_high, rfl⟩ : ∃ c_v_area c_v_low c_v_high, cs_v = [c_v_area, c_v_low, c_v_high] := by match cs_v, hl_v with | [x0, x1, x2], _ => exact ⟨x0, x1, x2, rfl⟩
        have o_v_area : Frame.Okc W (.sl [.int, .int]) c_v_area := hc_v 0 (by decide) (by simp)
        have o_v_low : Frame.Okc W (.int) c_v_low := hc_v 1 (by decide) (by simp)
        obtain ⟨v_low, e_v_low, w_v_low⟩ := o_v_low.int_inv; subst e_v_low
        have o_v_high : Frame.Okc W (.int) c_v_high := hc_v 2 (by decide) (by simp)
        obtain ⟨v_high, e_v_high, w_v_high⟩ := o_v_high.int_inv; subst e_v_high
        obtain ⟨cs_w, e_w, hl_w, hc_w⟩ := Frame.arg_agg Try.underlying48 (k := 8) (ks := [.sl [.int, .int], .int, .int]) (by kernel_rfl) (hval 1 _ v1 rfl rfl) tr1
        subst e_w
        obtain ⟨c_w_area, c_w_low, c_w_high, rfl⟩ : ∃ c_w_area c_w_low c_w_high, cs_w = [c_w_area, c_w_low, c_w_high] := by match cs_w, hl_w with | [x0, x1, x2], _ => exact ⟨x0, x1, x2, rfl⟩
        have o_w_area : Frame.Okc W (.sl [.int, .int]) c_w_area := hc_w 0 (by decide) (by simp)
        have o_w_low : Frame.Okc W (.int) c_w_low := hc_w 1 (by decide) (by simp)
        obtain ⟨w_low, e_w_low, w_w_low⟩ := o_w_low.int_inv; subst e_w_low
        have o_w_high : Frame.Okc W (.int) c_w_high := hc_w 2 (by decide) (by simp)
        obtain ⟨w_high, e_w_high, w_w_high⟩ := o_w_high.int_inv; subst e_w_high
        exact walk c_v_area v_low v_high c_w_area w_low w_high W o_v_area w_v_low w_v_high o_w_area w_w_low w_w_high)

/-- The statement. -/
theorem proved : Rows.VolumeOverlapSaid :=
  OpenClaim.holds_of_wide 9 Try.f9 rfl rfl rfl rfl rfl rfl rfl ⟨rfl, rfl, rfl, rfl, rfl⟩ rfl rfl rfl rfl rfl (by kernel_rfl) Try.func9 (by kernel_rfl)
    (of_decide_eq_true (by kernel_rfl)) (by unfold Func.isWrapper; first | (rw [if_pos (by decide +kernel)]; kernel_rfl) | (rw [if_neg (by decide +kernel)]; exact ⟨rfl, rfl⟩))
    (fun os started H enc _ => lifted os started H enc)
#print axioms proved
end VolumeOverlap
end Go.Proofs.Ytlokkffpmjlihaa

