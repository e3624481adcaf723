/- PlaneWay answers true for all pairs of points and parts. -/
import Derived.Test.YtaephikebeaibaaNear
import Derived.Test.YtaephikebeaibaaToward
namespace Go.Proofs.Ytaephikebeaibaa
open Go.RowKit
namespace PlaneWay
open Kit Plane
abbrev D (ax ay bx by' : Int) (r s : Int) : Prop := ∀ w : World, Calls Try.prog 17 #[.agg #[.int .i64 ax, .int .i64 ay], .agg #[.int .i64 bx, .int .i64 by']] w fun e w' => e = .returned (.tuple #[.int .i64 r, .int .i64 s]) ∧ Below w.heap.size w w'
abbrev T (ax ay bx by' n d px py e : Int) : Prop := ∀ w : World, Calls Try.prog 34 #[.agg #[.int .i64 ax, .int .i64 ay], .agg #[.int .i64 bx, .int .i64 by'], .int .i64 n, .int .i64 d] w fun e' w' => e' = .returned (.tuple #[.agg #[.int .i64 px, .int .i64 py], .int .i64 e]) ∧ Below w.heap.size w w'
set_option maxHeartbeats 600000 in
theorem far (ax ay bx by' n d M D0 : Int) (w : World) (hd : 1 + d.tmod 1000 % 1000 = D0) (hn : (n.tmod (D0 + 1) + D0 + 1) % (D0 + 1) = M) (b1 : -999 ≤ d.tmod 1000 ∧ d.tmod 1000 ≤ 999) (b2 : -D0 ≤ n.tmod (D0 + 1) ∧ n.tmod (D0 + 1) ≤ D0) (b3 : 1 ≤ D0 ∧ D0 ≤ 1000)
    (HN : Hid (N2 (px2 ax bx) (px2 ay by') false)) (T1 : Hid (T ax ay bx by' M D0 0 0 4)) :
    Calls Try.prog 9 #[.agg #[.int .i64 ax, .int .i64 ay], .agg #[.int .i64 bx, .int .i64 by'], .int .i64 n, .int .i64 d] w fun e w' => e = .returned (.bool true) ∧ Below w.heap.size w w' := by
  go_enter Try.func9, Try.ntmps9
  go_wp2_with fail
  refine (planeWorks _).mono ?_; rintro e w1 ⟨rfl, hb⟩
  have hw := b_next (b_alloc (b_alloc (Below.refl _ w) _) _) hb
  have pa := p2_keep hb (p2_alloc _ (p2_new w _ ax ay))
  have pb := p2_keep hb (p2_new1 w _ _ bx by')
  clear hb
  go_wp2_with fail
  refine (T1.out _).mono ?_; rintro e w2 ⟨rfl, hb⟩
  replace hw := b_next hw hb
  replace pa := p2_alloc (.cells #[.int .i64 0, .int .i64 0] 23) (p2_keep hb pa); replace pb := p2_alloc (.cells #[.int .i64 0, .int .i64 0] 23) (p2_keep hb pb)
  clear hb
  go_wp2_with fail
  refine (HN.out _ _ (by simp) (near_x2 _ _ _ _ _ _ _) (near_y2 _ _ _ _ _ _ _)).mono ?_; rintro e w3 ⟨rfl, hb⟩
  go_wp2_with fail
  go_ret
  exact ⟨rfl, b_next (b_alloc (b_alloc hw _) _) hb⟩
set_option maxHeartbeats 600000 in
theorem near_ (ax ay bx by' n d M D0 px py wh wh' pt pt' ex : Int) (w : World) (hd : 1 + d.tmod 1000 % 1000 = D0) (hn : (n.tmod (D0 + 1) + D0 + 1) % (D0 + 1) = M) (b1 : -999 ≤ d.tmod 1000 ∧ d.tmod 1000 ≤ 999) (b2 : -D0 ≤ n.tmod (D0 + 1) ∧ n.tmod (D0 + 1) ≤ D0) (b3 : 1 ≤ D0 ∧ D0 ≤ 1000)
    (b4 : 0 ≤ M) (b5 : 0 ≤ wh * M ∧ wh * M ≤ 10000000000) (he : wh * M / D0 = ex) (b6 : 0 ≤ ex ∧ ex ≤ 10000000000) (b7 : ex - 4 ≤ pt) (b8 : pt ≤ ex + 4)
    (T1 : Hid (T ax ay bx by' M D0 px py 0)) (D1 : Hid (D ax ay bx by' wh wh')) (D2 : Hid (D ax ay px py pt pt')) (T2 : Hid (T ax ay bx by' 0 D0 ax ay 0)) (T3 : Hid (T ax ay bx by' D0 D0 bx by' 0)) :
    Calls Try.prog 9 #[.agg #[.int .i64 ax, .int .i64 ay], .agg #[.int .i64 bx, .int .i64 by'], .int .i64 n, .int .i64 d] w fun e w' => e = .returned (.bool true) ∧ Below w.heap.size w w' := by
  go_enter Try.func9, Try.ntmps9
  go_wp2_with fail
  refine (planeWorks _).mono ?_; rintro e w1 ⟨rfl, hb⟩
  have hw := b_next (b_alloc (b_alloc (Below.refl _ w) _) _) hb
  have pa := p2_keep hb (p2_alloc _ (p2_new w _ ax ay))
  have pb := p2_keep hb (p2_new1 w _ _ bx by')
  clear hb
  go_wp2_with fail
  refine (T1.out _).mono ?_; rintro e w2 ⟨rfl, hb⟩
  replace hw := b_alloc (b_next hw hb) (.cells #[.int .i64 px, .int .i64 py] 23)
  replace pa := p2_alloc (.cells #[.int .i64 px, .int .i64 py] 23) (p2_keep hb pa); replace pb := p2_alloc (.cells #[.int .i64 px, .int .i64 py] 23) (p2_keep hb pb)
  have pp := p2_new w2 23 px py
  clear hb
  go_wp2_with fail
  refine (D1.out _).mono ?_; rintro e w3 ⟨rfl, hb⟩
  replace hw := b_next hw hb; replace pa := p2_keep hb pa; replace pb := p2_keep hb pb; replace pp := p2_keep hb pp
  clear hb
  go_wp2_with fail
  refine (D2.out _).mono ?_; rintro e w4 ⟨rfl, hb⟩
  replace hw := b_next hw hb; replace pa := p2_keep hb pa; replace pb := p2_keep hb pb
  clear hb pp
  go_wp2_with fail
  refine (T2.out _).mono ?_; rintro e w5 ⟨rfl, hb⟩
  replace hw := b_alloc (b_next hw hb) (.cells #[.int .i64 ax, .int .i64 ay] 23)
  replace pa := p2_alloc (.cells #[.int .i64 ax, .int .i64 ay] 23) (p2_keep hb pa); replace pb := p2_alloc (.cells #[.int .i64 ax, .int .i64 ay] 23) (p2_keep hb pb)
  have pf := p2_new w5 23 ax ay
  clear hb
  go_wp2_with fail
  refine (T3.out _).mono ?_; rintro e w6 ⟨rfl, hb⟩
  replace hw := b_alloc (b_next hw hb) (.cells #[.int .i64 bx, .int .i64 by'] 23)
  replace pa := p2_alloc (.cells #[.int .i64 bx, .int .i64 by'] 23) (p2_keep hb pa); replace pb := p2_alloc (.cells #[.int .i64 bx, .int .i64 by'] 23) (p2_keep hb pb)
  replace pf := p2_alloc (.cells #[.int .i64 bx, .int .i64 by'] 23) (p2_keep hb pf)
  have pl := p2_new w6 23 bx by'
  clear hb
  go_wp2_with fail
  go_ret
  exact ⟨rfl, hw⟩
theorem mod_bd (a D0 : Int) (h : 1 ≤ D0) : -D0 ≤ a.tmod (D0 + 1) ∧ a.tmod (D0 + 1) ≤ D0 := by
  obtain ⟨_, _, _, h4, _⟩ := Num.tdiv_facts a (D0 + 1) (by omega)
  have := h4 (by omega)
  omega
theorem walk (ax ay bx by' n d : Int) (w : World) (_ : -9223372036854775808 ≤ ax ∧ ax ≤ 9223372036854775807) (_ : -9223372036854775808 ≤ ay ∧ ay ≤ 9223372036854775807) (_ : -9223372036854775808 ≤ bx ∧ bx ≤ 9223372036854775807)
    (_ : -9223372036854775808 ≤ by' ∧ by' ≤ 9223372036854775807) (_ : -9223372036854775808 ≤ n ∧ n ≤ 9223372036854775807) (_ : -9223372036854775808 ≤ d ∧ d ≤ 9223372036854775807) :
    Calls Try.prog 9 #[.agg #[.int .i64 ax, .int .i64 ay], .agg #[.int .i64 bx, .int .i64 by'], .int .i64 n, .int .i64 d] w fun e w' => e = .returned (.bool true) ∧ Below w.heap.size w w' := by
  have b1 : -999 ≤ d.tmod 1000 ∧ d.tmod 1000 ≤ 999 := mod_bd d 999 (by omega)
  obtain ⟨D0, hd⟩ : ∃ D0, 1 + d.tmod 1000 % 1000 = D0 := ⟨_, rfl⟩
  have b3 : 1 ≤ D0 ∧ D0 ≤ 1000 := by omega
  have b2 := mod_bd n D0 b3.1
  obtain ⟨M, hn⟩ : ∃ M, (n.tmod (D0 + 1) + D0 + 1) % (D0 + 1) = M := ⟨_, rfl⟩
  have b4 : 0 ≤ M ∧ M ≤ D0 := by
    have h1 := Int.emod_nonneg (n.tmod (D0 + 1) + D0 + 1) (show D0 + 1 ≠ 0 by omega)
    have h2 := Int.emod_lt_of_pos (n.tmod (D0 + 1) + D0 + 1) (show 0 < D0 + 1 by omega)
    omega
  cases hg : allGood (px2 ax bx) (px2 ay by') 2 with
  | false =>
    refine far ax ay bx by' n d M D0 w hd hn b1 b2 b3 (near2 ax ay bx by' _ hg) (fun w => toward_far ax ay bx by' M D0 w (by omega) (by omega) (by omega) (by omega) fun h => ?_)
    have hh : allGood (px2 ax bx) (px2 ay by') 2 = true := (allGood_iff _ _ _).2 fun k hk => by
      match k, hk with
      | 0, _ => exact h.1
      | 1, _ => exact h.2
    rw [hg] at hh; cases hh
  | true =>
    have hg' := (allGood_iff _ _ _).1 hg
    have ga : good ax ay := hg' 0 (by omega)
    have gb : good bx by' := hg' 1 (by omega)
    clear hg hg'
    have s0 := sqr_nonneg ax ay bx by'
    have r1 := root_spec s0
    have l1 := dup_le s0 (sqr_near ga gb)
    have t1 := toward_ok ax ay bx by' M D0
    have mx : ∀ a b : Int, -1000000 ≤ a → a ≤ 1000000 → -1000000 ≤ b → b ≤ 1000000 → -1000000 ≤ tw a b M D0 ∧ tw a b M D0 ≤ 1000000 ∧ 0 ≤ (b - a) * M - D0 * (tw a b M D0 - a) ∧ (b - a) * M - D0 * (tw a b M D0 - a) < D0 := fun a b h1 h2 h3 h4 => by
      have e : tw a b M D0 - a = (b - a) * M / D0 := by unfold tw; omega
      have e1 := Int.mul_ediv_add_emod ((b - a) * M) D0
      have e2 := Int.emod_nonneg ((b - a) * M) (show D0 ≠ 0 by omega)
      have e3 := Int.emod_lt_of_pos ((b - a) * M) (show 0 < D0 by omega)
      have f := tw_bd (a := a) (b := b) (n := M) (d := D0) (by omega) (by omega) (by omega)
      refine ⟨by omega, by omega, ?_, ?_⟩ <;> (rw [e]; generalize D0 * ((b - a) * M / D0) = t at *; omega)
    have gx := mx ax bx (by omega) (by omega) (by omega) (by omega)
    have gy := mx ay by' (by omega) (by omega) (by omega) (by omega)
    have gp : good (tw ax bx M D0) (tw ay by' M D0) := by omega
    have s2 := sqr_nonneg ax ay (tw ax bx M D0) (tw ay by' M D0)
    have r2 := root_spec s2
    have key := way (vx := bx - ax) (vy := by' - ay) (qx := tw ax bx M D0 - ax) (qy := tw ay by' M D0 - ay) (rx := (bx - ax) * M - D0 * (tw ax bx M D0 - ax)) (ry := (by' - ay) * M - D0 * (tw ay by' M D0 - ay)) (n := M) (d := D0)
      (W := root (sqr ax ay bx by')) (P := root (sqr ax ay (tw ax bx M D0) (tw ay by' M D0))) (s := sqr ax ay bx by') (by omega) b4.1 b4.2 r1.1 r2.1 (by unfold sqr; grind) r1.2.1 r1.2.2
      (by have h := r2.2.1; unfold sqr at h ⊢; grind) (by have h := r2.2.2; unfold sqr at h ⊢; grind) (by rw [Int.mul_comm M]; omega) (by rw [Int.mul_comm M]; omega) gx.2.2.1 gx.2.2.2 gy.2.2.1 gy.2.2.2
    have hWM : 0 ≤ root (sqr ax ay bx by') * M ∧ root (sqr ax ay bx by') * M ≤ 2828428 * 1000 := ⟨Int.mul_nonneg r1.1 b4.1, Int.mul_le_mul l1.2 (by omega) b4.1 (by omega)⟩
    have q := Num.fd_spec_pos (a := root (sqr ax ay bx by') * M) (b := D0) (by omega)
    rw [Num.fd_pos (by omega)] at q
    have hex : 0 ≤ root (sqr ax ay bx by') * M / D0 := Int.ediv_nonneg hWM.1 (by omega)
    have hex2 : root (sqr ax ay bx by') * M / D0 ≤ root (sqr ax ay bx by') * M := Int.ediv_le_self _ hWM.1
    have hend := way_end (W := root (sqr ax ay bx by')) (P := root (sqr ax ay (tw ax bx M D0) (tw ay by' M D0))) (E := root (sqr ax ay bx by') * M / D0) (n := M) (d := D0) (by omega) b4.2 q.1 q.2 key.1 key.2
    refine near_ ax ay bx by' n d M D0 (tw ax bx M D0) (tw ay by' M D0) (root (sqr ax ay bx by')) (dup (sqr ax ay bx by')) (root (sqr ax ay (tw ax bx M D0) (tw ay by' M D0))) (dup (sqr ax ay (tw ax bx M D0) (tw ay by' M D0))) _ w hd hn b1 b2 b3 b4.1 (by omega) rfl
      (by omega) hend.1 hend.2 (fun w => t1 w (by omega) (by omega) (by omega) (by omega) ga gb) (fun w => distance ax ay bx by' w rfl (by omega)) (fun w => distance ax ay _ _ w rfl (by omega)) (fun w => ?_) (fun w => ?_)
    · have h := toward_ok ax ay bx by' 0 D0 w (by omega) (by omega) (by omega) (by omega) ga gb
      rw [tw_zero, tw_zero] at h; exact h
    · have h := toward_ok ax ay bx by' D0 D0 w (by omega) (by omega) (by omega) (by omega) ga gb
      rw [tw_all (by omega), tw_all (by omega)] at h; exact h
-- FRAME --

set_option maxRecDepth 100000 in
theorem lifted (os : Os) (started : os.Started) (H : Type) (enc : TypeId × Value → H) :
    ReturnsInHanded {} Try.checked os 9 .any (Rows.planeWaySpec.pre6 enc Try.prog Try.f9 Rows.planeWayRow.domain false) (Rows.planeWaySpec.post enc Try.prog Try.f9 false true false false) :=
  Frame.lifted (C := Try.checked) 9 Try.f9 Try.own started (by kernel_rfl) Try.func9 Try.laidOut rfl (by kernel_rfl) 4 rfl Try.underlying4
      (fun ds h => by match ds, h with | [_, _, _, _], _ => rfl)
      (ChangeSpec.witness6 (enc := enc) (C := Try.checked) false ⟨#[], #[.agg #[.int .i64 0, .int .i64 0], .agg #[.int .i64 0, .int .i64 0], .int .i64 0, .int .i64 0], []⟩ 8 (by kernel_rfl) (by kernel_rfl) (by kernel_rfl) (by kernel_rfl))
      (fun W base args ds ps hval0 hA _ => by
        have hval : ∀ (j : Nat) t v, Try.f9.params[j]? = some t → args[j]? = some v → Value.okWide Try.prog W .any base t v := hval0
        have hA' : DataW.TrodAll enc Try.prog W 0 (fun _ => true) true Try.f9.params.toList args.toList ds ps := hA
        clear hval0 hA
        have hA := hA'
        rw [Try.params9] at hA hval
        obtain ⟨v0, v1, v2, v3, d0, d1, d2, d3, p0, p1, p2, p3, rfl, _, _, _, _, _, _⟩ := RowKit.trodAll_four hA
        obtain ⟨ns_a, rfl, hl_a, hw_a⟩ := Frame.arg_flat _ Try.underlying23 (ts := [3, 3]) (by kernel_rfl) (by kernel_rfl) (by intro u hu; simp at hu; rw [hu]; exact Try.underlying3) (hval 0 _ _ rfl rfl)
        obtain ⟨a_x, a_y, rfl⟩ := Frame.list2 hl_a
        obtain ⟨ns_b, rfl, hl_b, hw_b⟩ := Frame.arg_flat _ Try.underlying23 (ts := [3, 3]) (by kernel_rfl) (by kernel_rfl) (by intro u hu; simp at hu; rw [hu]; exact Try.underlying3) (hval 1 _ _ rfl rfl)
        obtain ⟨b_x, b_y, rfl⟩ := Frame.list2 hl_b
        obtain ⟨n, rfl, w_n⟩ := Frame.arg_int Try.underlying3 (hval 2 _ _ rfl rfl)
        obtain ⟨d, rfl, w_d⟩ := Frame.arg_int Try.underlying3 (hval 3 _ _ rfl rfl)
        exact (walk a_x a_y b_x b_y n d W (Frame.bd (hw_a _ (by simp))) (Frame.bd (hw_a _ (by simp))) (Frame.bd (hw_b _ (by simp))) (Frame.bd (hw_b _ (by simp))) (Frame.bd w_n) (Frame.bd w_d)).mono fun e w' ⟨he, hw⟩ => ⟨he, hw⟩)

/-- The statement. -/
theorem proved : Rows.PlaneWaySaid :=
  OpenClaim.holds_of_wide 9 Try.f9 rfl rfl rfl rfl rfl rfl rfl ⟨rfl, rfl, rfl, rfl, rfl⟩ rfl rfl rfl rfl rfl (by kernel_rfl) Try.func9 (by kernel_rfl)
    (of_decide_eq_true (by kernel_rfl)) (by unfold Func.isWrapper; first | (rw [if_pos (by decide +kernel)]; kernel_rfl) | (rw [if_neg (by decide +kernel)]; exact ⟨rfl, rfl⟩))
    (fun os started H enc _ => lifted os started H enc)
#print axioms proved
end PlaneWay
end Go.Proofs.Ytaephikebeaibaa

