/- VolumeHas: a volume has a point exactly if its area has it and the height is between both heights. For every input. -/
import Derived.Test.YtlgdcpkjobbnnaaVolH
import Derived.Test.YtlgdcpkjobbnnaaVolV
namespace Go.Proofs.Ytlgdcpkjobbnnaa
open Go.RowKit Go.ChangeShapes Go.WideShapes
namespace VolumeHas
open Kit Plane Poly Vol
set_option maxHeartbeats 4000000 in
theorem has (A : Option Addr) (n cap : Nat) (low high qx qy h p E : Int) (b : Bool) (w : World) (HS : Hid (∀ w1, Below w.heap.size w w1 → Calls Try.prog 41 #[.agg #[.slice A n cap, .int .i64 low, .int .i64 high], .agg #[.int .i64 qx, .int .i64 qy], .int .i64 h] w1 fun e w' => e = .returned (.tuple #[.bool b, .int .i64 E]) ∧ Below w1.heap.size w1 w'))
    (LO : Hid (E = 0 → ∀ w1, Below w.heap.size w w1 → Calls Try.prog 19 #[.slice A n cap, .agg #[.int .i64 qx, .int .i64 qy]] w1 fun e w' => e = .returned (.tuple #[.int .i64 p, .int .i64 0]) ∧ Below w1.heap.size w1 w')) (HB : Hid ((E ≠ 0 ∧ b = false) ∨ (E = 0 ∧ b = decide (0 ≤ p ∧ low ≤ h ∧ h < high)))) :
    Calls Try.prog 14 #[.agg #[.slice A n cap, .int .i64 low, .int .i64 high], .agg #[.int .i64 qx, .int .i64 qy], .int .i64 h] w fun e w' => e = .returned (.bool true) ∧ Below w.heap.size w w' := by
  have H3 := Lib.hid (v3_keep (b_alloc (Below.refl _ _) (.cells #[.int .i64 qx, .int .i64 qy] 23)) (v3_new w 86 (.slice A n cap) low high))
  have HP := Lib.hid (p2_new (w.alloc (.cells #[.slice A n cap, .int .i64 low, .int .i64 high] 86)) 23 qx qy)
  have HW := Lib.hid (b_alloc (b_alloc (Below.refl w.heap.size w) (.cells #[.slice A n cap, .int .i64 low, .int .i64 high] 86)) (.cells #[.int .i64 qx, .int .i64 qy] 23))
  have hp2 := HP.out
  rw [World.size_alloc] at hp2
  have HP2 := Lib.hid hp2; clear hp2 HP
  go_enter Try.func14, Try.ntmps14
  go_wp2_with fail
  refine (volumeWorks _).mono ?_; rintro e w1 ⟨rfl, hb⟩
  have W1 := Lib.hid (b_next HW.out hb); have V1 := Lib.hid (v3_keep hb H3.out); have P1 := Lib.hid (p2_keep hb HP2.out); clear hb
  obtain ⟨c0, c1, c2⟩ := V1.out
  obtain ⟨p0, p1⟩ := P1.out
  go_wp2_with fail
  (with_reducible refine (HS.out _ W1.out).mono ?_); rintro e w2 ⟨rfl, hb⟩
  have W2 := Lib.hid (b_next W1.out hb); have V2 := Lib.hid (v3_keep hb V1.out); have P2 := Lib.hid (p2_keep hb P1.out); clear hb c0 c1 c2 p0 p1
  rcases HB.out with ⟨hE, rfl⟩ | ⟨rfl, rfl⟩
  · have e1 : (E == 0) = false := by simp [hE]
    have e2 : (E != 0) = true := by simp [hE]
    clear HB
    go_wp2_with fail
    all_goals (go_ret; exact ⟨by first | rfl | exact retb rfl, W2.out⟩)
  · clear HB
    have LL := Lib.hid (LO.out rfl)
    clear LO
    obtain ⟨c0, c1, c2⟩ := V2.out
    obtain ⟨p0, p1⟩ := P2.out
    by_cases x1 : 0 ≤ p <;> by_cases x2 : low ≤ h <;> by_cases x3 : h < high
    all_goals
      obtain ⟨B, hB⟩ : ∃ B : Bool, B = decide (0 ≤ p ∧ low ≤ h ∧ h < high) := ⟨_, rfl⟩
      rw [← hB]
      simp only [x1, x2, x3, and_true, and_false, decide_true, decide_false] at hB
      subst hB
      go_wp2_with fail
      (with_reducible refine (LL.out _ W2.out).mono ?_); rintro e w3 ⟨rfl, hb⟩
      have W3 := Lib.hid (b_next W2.out hb); have V3' := Lib.hid (v3_keep hb V2.out); clear hb
      clear c0 c1 c2
      obtain ⟨c0, c1, c2⟩ := V3'.out
      go_wp2_with fail
      all_goals first | (exfalso; omega) | (go_ret; exact ⟨by first | rfl | exact retb rfl | exact retb (by simp [x3]), W3.out⟩)
theorem walk (v_area : Value) (v_low : Int) (v_high : Int) (q_x : Int) (q_y : Int) (height : Int) (W : World) (h_v_area : Frame.Okc W (.sl [.int, .int]) v_area) (_h_v_low : -9223372036854775808 ≤ v_low ∧ v_low ≤ 9223372036854775807) (_h_v_high : -9223372036854775808 ≤ v_high ∧ v_high ≤ 9223372036854775807) (_h_q_x : -9223372036854775808 ≤ q_x ∧ q_x ≤ 9223372036854775807) (_h_q_y : -9223372036854775808 ≤ q_y ∧ q_y ≤ 9223372036854775807) (_h_height : -9223372036854775808 ≤ height ∧ height ≤ 9223372036854775807) :
    Calls Try.prog 14 #[.agg #[v_area, .int .i64 v_low, .int .i64 v_high], .agg #[.int .i64 q_x, .int .i64 q_y], .int .i64 height] W fun e w' => e = .returned (.bool true) ∧ Below W.heap.size W w' := by
  obtain ⟨n, X, Y, hv, -⟩ := qv_of h_v_area
  obtain ⟨A, cap, rfl, -, -⟩ := qv_slice hv
  refine has A n cap v_low v_high q_x q_y height (place n X Y q_x q_y) (hasV (pck n X Y) v_low v_high q_x q_y height (place n X Y q_x q_y)).2 (hasV (pck n X Y) v_low v_high q_x q_y height (place n X Y q_x q_y)).1 W (Lib.hid fun w1 hb => hasC (qv_keep hb hv) v_low v_high q_x q_y height) (Lib.hid ?_) (Lib.hid ?_)
  · intro hE w1 hb
    have := locC (qv_keep hb hv) q_x q_y
    unfold hasV vck at hE
    unfold loc at this
    by_cases hp : pck n X Y = 0
    · rw [if_neg (fun h => h hp)] at this
      cases hg : goodB q_x q_y with
      | false =>
        rw [if_pos hg] at hE
        by_cases hx : v_low < 0 ∨ 60001 < v_high ∨ v_high ≤ v_low
        · rw [if_neg (fun h : pck n X Y ≠ 0 => h hp), if_pos hx] at hE; exact absurd hE (by decide)
        · rw [if_neg (fun h : pck n X Y ≠ 0 => h hp), if_neg hx] at hE; exact absurd hE (by decide)
      | true =>
        rw [if_neg (by rw [hg]; decide)] at this
        exact this
    · rw [if_pos hp] at hE
      rw [if_pos hp] at hE
      exact absurd hE hp
  · unfold hasV
    by_cases h1 : vck (pck n X Y) v_low v_high ≠ 0
    · rw [if_pos h1]; exact Or.inl ⟨h1, rfl⟩
    · rw [if_neg h1]
      by_cases h2 : goodB q_x q_y = false
      · rw [if_pos h2]; exact Or.inl ⟨by decide, rfl⟩
      · rw [if_neg h2]
        by_cases h3 : height < 0 ∨ 60000 < height
        · rw [if_pos h3]; exact Or.inl ⟨by decide, rfl⟩
        · rw [if_neg h3]; exact Or.inr ⟨rfl, rfl⟩
-- FRAME --

set_option maxRecDepth 100000 in
theorem lifted (os : Os) (started : os.Started) (H : Type) (enc : TypeId × Value → H) :
    ReturnsInHanded {} Try.checked os 14 .any (Rows.volumeHasSpec.pre6 enc Try.prog Try.f14 Rows.volumeHasRow.domain false) (Rows.volumeHasSpec.post enc Try.prog Try.f14 false true false false) :=
  Frame.lifted (C := Try.checked) 14 Try.f14 Try.own started (by kernel_rfl) Try.func14 Try.laidOut rfl (by kernel_rfl) 4 rfl Try.underlying4
      (fun ds h => by match ds, h with | [_, _, _], _ => rfl)
      (ChangeSpec.witness6 (enc := enc) (C := Try.checked) false ⟨#[], #[.agg #[.slice none 0 0, .int .i64 0, .int .i64 0], .agg #[.int .i64 0, .int .i64 0], .int .i64 0], []⟩ 8 (by kernel_rfl) (by kernel_rfl) (by kernel_rfl) (by kernel_rfl))
      (fun W base args ds ps hval0 hA _ => by
        have hval : ∀ (j : Nat) t v, Try.f14.params[j]? = some t → args[j]? = some v → Value.okWide Try.prog W .any base t v := hval0
        have hA' : DataW.TrodAll enc Try.prog W 0 (fun _ => true) true Try.f14.params.toList args.toList ds ps := hA
        clear hval0 hA
        have hA := hA'
        clear hA'
        rw [Try.params14] at hA hval
        obtain ⟨v0, vs0, d0, ds0, p0, q0, ea, rfl, rfl, tr0, rest0⟩ := trodAll_cons hA
        obtain ⟨v1, vs1, d1, ds1, p1, q1, rfl, rfl, rfl, tr1, rest1⟩ := trodAll_cons rest0
        obtain ⟨v2, vs2, d2, ds2, p2, q2, rfl, rfl, rfl, tr2, rest2⟩ := trodAll_cons rest1
        obtain ⟨rfl, rfl, rfl⟩ := trodAll_nil rest2
        obtain rfl : args = #[v0, v1, v2] := by cases args; simp_all
        clear ea
        obtain ⟨cs_v, e_v, hl_v, hc_v⟩ := Frame.arg_agg Try.underlying86 (k := 8) (ks := [.sl [.int, .int], .int, .int]) (by kernel_rfl) (hval 0 _ v0 rfl rfl) tr0
        subst e_v
        obtain ⟨c_v_area, c_v_low, c_v_high, rfl⟩ : ∃ c_v_area c_v_low c_v_high, cs_v = [c_v_area, c_v_low, c_v_high] := by match cs_v, hl_v with | [x0, x1, x2], _ => exact ⟨x0, x1, x2, rfl⟩
        have o_v_area : Frame.Okc W (.sl [.int, .int]) c_v_area := hc_v 0 (by decide) (by simp)
        have o_v_low : Frame.Okc W (.int) c_v_low := hc_v 1 (by decide) (by simp)
        obtain ⟨v_low, e_v_low, w_v_low⟩ := o_v_low.int_inv; subst e_v_low
        have o_v_high : Frame.Okc W (.int) c_v_high := hc_v 2 (by decide) (by simp)
        obtain ⟨v_high, e_v_high, w_v_high⟩ := o_v_high.int_inv; subst e_v_high
        obtain ⟨cs_q, e_q, hl_q, hc_q⟩ := Frame.arg_agg Try.underlying23 (k := 8) (ks := [.int, .int]) (by kernel_rfl) (hval 1 _ v1 rfl rfl) tr1
        subst e_q
        obtain ⟨c_q_x, c_q_y, rfl⟩ : ∃ c_q_x c_q_y, cs_q = [c_q_x, c_q_y] := by match cs_q, hl_q with | [x0, x1], _ => exact ⟨x0, x1, rfl⟩
        have o_q_x : Frame.Okc W (.int) c_q_x := hc_q 0 (by decide) (by simp)
        obtain ⟨q_x, e_q_x, w_q_x⟩ := o_q_x.int_inv; subst e_q_x
        have o_q_y : Frame.Okc W (.int) c_q_y := hc_q 1 (by decide) (by simp)
        obtain ⟨q_y, e_q_y, w_q_y⟩ := o_q_y.int_inv; subst e_q_y
        obtain ⟨height, rfl, w_height⟩ := Frame.arg_int Try.underlying3 (hval 2 _ v2 rfl rfl)
        exact walk c_v_area v_low v_high q_x q_y height W o_v_area w_v_low w_v_high w_q_x w_q_y (Frame.bd w_height))

/-- The statement. -/
theorem proved : Rows.VolumeHasSaid :=
  OpenClaim.holds_of_wide 14 Try.f14 rfl rfl rfl rfl rfl rfl rfl ⟨rfl, rfl, rfl, rfl, rfl⟩ rfl rfl rfl rfl rfl (by kernel_rfl) Try.func14 (by kernel_rfl)
    (of_decide_eq_true (by kernel_rfl)) (by unfold Func.isWrapper; first | (rw [if_pos (by decide +kernel)]; kernel_rfl) | (rw [if_neg (by decide +kernel)]; exact ⟨rfl, rfl⟩))
    (fun os started H enc _ => lifted os started H enc)
#print axioms proved
end VolumeHas
end Go.Proofs.Ytlgdcpkjobbnnaa

