/- PlaneTriangle answers true for all triples of points. -/
import Derived.Test.YtaephikebeaibaaNear
namespace Go.Proofs.Ytaephikebeaibaa
open Go.RowKit
namespace PlaneTriangle
open Kit Plane
abbrev D (ax ay bx by' : Int) (r s : Int) : Prop := ∀ w : World, Calls Try.prog 17 #[.agg #[.int .i64 ax, .int .i64 ay], .agg #[.int .i64 bx, .int .i64 by']] w fun e w' => e = .returned (.tuple #[.int .i64 r, .int .i64 s]) ∧ Below w.heap.size w w'
set_option maxHeartbeats 1000000 in
theorem far (ax ay bx by' cx cy : Int) (w : World) (HN : Hid (N (px ax bx cx) (px ay by' cy) false)) :
    Calls Try.prog 3 #[.agg #[.int .i64 ax, .int .i64 ay], .agg #[.int .i64 bx, .int .i64 by'], .agg #[.int .i64 cx, .int .i64 cy]] w fun e w' => e = .returned (.bool true) ∧ Below w.heap.size w w' := by
  go_enter Try.func3, Try.ntmps3
  go_wp2_with fail
  refine (planeWorks _).mono ?_; rintro e w1 ⟨rfl, hb1⟩
  have hbw := b_next (b_alloc (b_alloc (b_alloc (Below.refl _ w) _) _) _) hb1
  obtain ⟨hc1, hf1⟩ := bcell hb1
  go_wp2_with fail
  refine (HN.out _ _ ?_ ?_ ?_).mono ?_
  · simp
  · intro k hk
    match k, hk with
    | 0, _ => simp [px]
    | 1, _ => simp [px]
    | 2, _ => simp [px]
  · intro k hk
    match k, hk with
    | 0, _ => simp [px]
    | 1, _ => simp [px]
    | 2, _ => simp [px]
  rintro e w2 ⟨rfl, hb2⟩
  go_wp2_with fail
  go_ret
  exact ⟨rfl, b_next (b_alloc hbw _) hb2⟩
abbrev S (ax ay bx by' : Int) (r : Int) : Prop := ∀ w : World, Calls Try.prog 18 #[.agg #[.int .i64 ax, .int .i64 ay], .agg #[.int .i64 bx, .int .i64 by']] w fun e w' => e = .returned (.int .i64 r) ∧ Below w.heap.size w w'
abbrev I (ax ay bx by' d : Int) (r : Bool) : Prop := ∀ w : World, Calls Try.prog 19 #[.agg #[.int .i64 ax, .int .i64 ay], .agg #[.int .i64 bx, .int .i64 by'], .int .i64 d] w fun e w' => e = .returned (.bool r) ∧ Below w.heap.size w w'
set_option maxHeartbeats 2000000 in
theorem near_ (ax ay bx by' cx cy x y u v u' v' s : Int) (w : World) (HN : Hid (N (px ax bx cx) (px ay by' cy) true))
    (D1 : Hid (D ax ay bx by' x y)) (D2 : Hid (D ax ay cx cy u' u)) (D3 : Hid (D cx cy bx by' v' v)) (S1 : Hid (S ax ay bx by' s)) (I1 : Hid (I ax ay bx by' y true)) (I2 : Hid (x ≠ 0 → I ax ay bx by' (x - 1) false))
    (hx : 0 ≤ x ∧ x ≤ 100000000) (hy : 0 ≤ y ∧ y ≤ 100000000) (hu : 0 ≤ u ∧ u ≤ 100000000) (hv : 0 ≤ v ∧ v ≤ 100000000) (h1 : x ≤ u + v) (h2 : y - x ≤ 1) (h3 : x * x ≤ s) (h4 : s ≤ y * y) (h5 : 0 ≤ x * x) (h6 : y * y ≤ 1000000000000000000) :
    Calls Try.prog 3 #[.agg #[.int .i64 ax, .int .i64 ay], .agg #[.int .i64 bx, .int .i64 by'], .agg #[.int .i64 cx, .int .i64 cy]] w fun e w' => e = .returned (.bool true) ∧ Below w.heap.size w w' := by
  by_cases hx0 : x = 0
  · subst hx0
    clear I2
    go_enter Try.func3, Try.ntmps3
    go_wp2_with fail
    refine (planeWorks _).mono ?_; rintro e w1 ⟨rfl, hb1⟩
    have hw := b_next (b_alloc (b_alloc (b_alloc (Below.refl _ w) _) _) _) hb1
    have pa := p2_keep hb1 (p2_alloc _ (p2_alloc _ (p2_new w _ ax ay)))
    have pb := p2_keep hb1 (p2_alloc _ (p2_new (w.alloc (.cells #[.int .i64 ax, .int .i64 ay] _)) _ bx by'))
    have pc := p2_keep hb1 (p2_new ((w.alloc (.cells #[.int .i64 ax, .int .i64 ay] _)).alloc (.cells #[.int .i64 bx, .int .i64 by'] _)) _ cx cy)
    simp only [World.size_alloc] at pb pc
    clear hb1
    go_wp2_with fail
    refine (HN.out _ _ (by simp) (near_x _ _ _ _ _ _ _ _) (near_y _ _ _ _ _ _ _ _)).mono ?_
    rintro e w2 ⟨rfl, hb2⟩
    replace hw := b_next (b_alloc hw _) hb2
    replace pa := p2_keep hb2 (p2_alloc _ pa); replace pb := p2_keep hb2 (p2_alloc _ pb); replace pc := p2_keep hb2 (p2_alloc _ pc)
    clear hb2
    go_wp2_with fail
    refine (D1.out _).mono ?_; rintro e w3 ⟨rfl, hb⟩
    replace hw := b_next hw hb
    replace pa := p2_keep hb pa; replace pb := p2_keep hb pb; replace pc := p2_keep hb pc
    clear hb
    go_wp2_with fail
    refine (D2.out _).mono ?_; rintro e w3 ⟨rfl, hb⟩
    replace hw := b_next hw hb
    replace pa := p2_keep hb pa; replace pb := p2_keep hb pb; replace pc := p2_keep hb pc
    clear hb
    go_wp2_with fail
    refine (D3.out _).mono ?_; rintro e w3 ⟨rfl, hb⟩
    replace hw := b_next hw hb
    replace pa := p2_keep hb pa; replace pb := p2_keep hb pb; replace pc := p2_keep hb pc
    clear hb
    go_wp2_with fail
    refine (S1.out _).mono ?_; rintro e w3 ⟨rfl, hb⟩
    replace hw := b_next hw hb
    replace pa := p2_keep hb pa; replace pb := p2_keep hb pb; replace pc := p2_keep hb pc
    clear hb
    go_wp2_with fail
    refine (S1.out _).mono ?_; rintro e w3 ⟨rfl, hb⟩
    replace hw := b_next hw hb
    replace pa := p2_keep hb pa; replace pb := p2_keep hb pb; replace pc := p2_keep hb pc
    clear hb
    go_wp2_with fail
    refine (I1.out _).mono ?_; rintro e w3 ⟨rfl, hb⟩
    replace hw := b_next hw hb
    replace pa := p2_keep hb pa; replace pb := p2_keep hb pb; replace pc := p2_keep hb pc
    clear hb
    go_wp2_with fail
    go_ret
    exact ⟨rfl, hw⟩
  · have I3 := I2.out hx0
    have I4 := Lib.hid I3
    have hx1 : (x == 0) = false := by rw [beq_eq_false_iff_ne]; exact hx0
    clear I3 I2 hx0
    go_enter Try.func3, Try.ntmps3
    go_wp2_with fail
    refine (planeWorks _).mono ?_; rintro e w1 ⟨rfl, hb1⟩
    have hw := b_next (b_alloc (b_alloc (b_alloc (Below.refl _ w) _) _) _) hb1
    have pa := p2_keep hb1 (p2_alloc _ (p2_alloc _ (p2_new w _ ax ay)))
    have pb := p2_keep hb1 (p2_alloc _ (p2_new (w.alloc (.cells #[.int .i64 ax, .int .i64 ay] _)) _ bx by'))
    have pc := p2_keep hb1 (p2_new ((w.alloc (.cells #[.int .i64 ax, .int .i64 ay] _)).alloc (.cells #[.int .i64 bx, .int .i64 by'] _)) _ cx cy)
    simp only [World.size_alloc] at pb pc
    clear hb1
    go_wp2_with fail
    refine (HN.out _ _ (by simp) (near_x _ _ _ _ _ _ _ _) (near_y _ _ _ _ _ _ _ _)).mono ?_
    rintro e w2 ⟨rfl, hb2⟩
    replace hw := b_next (b_alloc hw _) hb2
    replace pa := p2_keep hb2 (p2_alloc _ pa); replace pb := p2_keep hb2 (p2_alloc _ pb); replace pc := p2_keep hb2 (p2_alloc _ pc)
    clear hb2
    go_wp2_with fail
    refine (D1.out _).mono ?_; rintro e w3 ⟨rfl, hb⟩
    replace hw := b_next hw hb
    replace pa := p2_keep hb pa; replace pb := p2_keep hb pb; replace pc := p2_keep hb pc
    clear hb
    go_wp2_with fail
    refine (D2.out _).mono ?_; rintro e w3 ⟨rfl, hb⟩
    replace hw := b_next hw hb
    replace pa := p2_keep hb pa; replace pb := p2_keep hb pb; replace pc := p2_keep hb pc
    clear hb
    go_wp2_with fail
    refine (D3.out _).mono ?_; rintro e w3 ⟨rfl, hb⟩
    replace hw := b_next hw hb
    replace pa := p2_keep hb pa; replace pb := p2_keep hb pb; replace pc := p2_keep hb pc
    clear hb
    go_wp2_with fail
    refine (S1.out _).mono ?_; rintro e w3 ⟨rfl, hb⟩
    replace hw := b_next hw hb
    replace pa := p2_keep hb pa; replace pb := p2_keep hb pb; replace pc := p2_keep hb pc
    clear hb
    go_wp2_with fail
    refine (S1.out _).mono ?_; rintro e w3 ⟨rfl, hb⟩
    replace hw := b_next hw hb
    replace pa := p2_keep hb pa; replace pb := p2_keep hb pb; replace pc := p2_keep hb pc
    clear hb
    go_wp2_with fail
    refine (I1.out _).mono ?_; rintro e w3 ⟨rfl, hb⟩
    replace hw := b_next hw hb
    replace pa := p2_keep hb pa; replace pb := p2_keep hb pb; replace pc := p2_keep hb pc
    clear hb
    go_wp2_with fail
    refine (I4.out _).mono ?_; rintro e w3 ⟨rfl, hb⟩
    replace hw := b_next hw hb
    replace pa := p2_keep hb pa; replace pb := p2_keep hb pb; replace pc := p2_keep hb pc
    clear hb
    go_wp2_with fail
    go_ret
    exact ⟨rfl, hw⟩
theorem walk (ax ay bx by' cx cy : Int) (w : World) (_ : -9223372036854775808 ≤ ax ∧ ax ≤ 9223372036854775807) (_ : -9223372036854775808 ≤ ay ∧ ay ≤ 9223372036854775807) (_ : -9223372036854775808 ≤ bx ∧ bx ≤ 9223372036854775807)
    (_ : -9223372036854775808 ≤ by' ∧ by' ≤ 9223372036854775807) (_ : -9223372036854775808 ≤ cx ∧ cx ≤ 9223372036854775807) (_ : -9223372036854775808 ≤ cy ∧ cy ≤ 9223372036854775807) :
    Calls Try.prog 3 #[.agg #[.int .i64 ax, .int .i64 ay], .agg #[.int .i64 bx, .int .i64 by'], .agg #[.int .i64 cx, .int .i64 cy]] w fun e w' => e = .returned (.bool true) ∧ Below w.heap.size w w' := by
  cases hg : allGood (px ax bx cx) (px ay by' cy) 3 with
  | false =>
    refine far ax ay bx by' cx cy w fun b w hb hx hy => ?_
    have c := near (px ax bx cx) (px ay by' cy) 3 b w (by omega) hb hx hy
    rw [hg] at c
    exact c
  | true =>
    have c : N (px ax bx cx) (px ay by' cy) true := fun b w hb hx hy => by
      have c := near (px ax bx cx) (px ay by' cy) 3 b w (by omega) hb hx hy
      rw [hg] at c
      exact c
    have hg' := (allGood_iff _ _ _).1 hg
    have ga : good ax ay := hg' 0 (by omega)
    have gb : good bx by' := hg' 1 (by omega)
    have gc : good cx cy := hg' 2 (by omega)
    clear hg hg'
    have s0 := sqr_nonneg ax ay bx by'
    have s1 := sqr_near ga gb
    have r1 := root_spec s0
    have u1 := dup_spec s0
    have l1 := dup_le s0 s1
    have n1 := dup_near (sqr ax ay bx by')
    have u2 := dup_spec (sqr_nonneg ax ay cx cy)
    have l2 := dup_le (sqr_nonneg ax ay cx cy) (sqr_near ga gc)
    have u3 := dup_spec (sqr_nonneg cx cy bx by')
    have l3 := dup_le (sqr_nonneg cx cy bx by') (sqr_near gc gb)
    have ht : root (sqr ax ay bx by') ≤ dup (sqr ax ay cx cy) + dup (sqr cx cy bx by') := by
      refine triangle (px := ax - cx) (py := ay - cy) (qx := cx - bx) (qy := cy - by') u2.1 u3.1 u2.2.1 u3.2.1 ?_
      rw [show ax - cx + (cx - bx) = ax - bx from by omega, show ay - cy + (cy - by') = ay - by' from by omega]
      exact r1.2.1
    have yy := sq_le_of (x := dup (sqr ax ay bx by')) (M := 2828428) (by omega)
    refine near_ ax ay bx by' cx cy (root (sqr ax ay bx by')) (dup (sqr ax ay bx by')) (dup (sqr ax ay cx cy)) (dup (sqr cx cy bx by')) _ _ (sqr ax ay bx by') w c
      (fun w => distance ax ay bx by' w rfl (by omega)) (fun w => distance ax ay cx cy w rfl (by omega)) (fun w => distance cx cy bx by' w rfl (by omega)) (fun w => square ax ay bx by' w rfl (by omega)) (fun w => ?_) (fun hx w => ?_)
      ⟨r1.1, by omega⟩ ⟨u1.1, by omega⟩ ⟨u2.1, by omega⟩ ⟨u3.1, by omega⟩ ht (by omega) r1.2.1 u1.2.1 (sq_nonneg _) (by omega)
    · have h := within ax ay bx by' (dup (sqr ax ay bx by')) w rfl (by omega)
      rw [show inB (sqr ax ay bx by') (dup (sqr ax ay bx by')) = true from by unfold inB; rw [decide_eq_true_eq]; exact ⟨u1.1, by omega, u1.2.1⟩] at h
      exact h
    · have h := within ax ay bx by' (root (sqr ax ay bx by') - 1) w rfl (by omega)
      rw [show inB (sqr ax ay bx by') (root (sqr ax ay bx by') - 1) = false from by
        unfold inB; rw [decide_eq_false_iff_not]
        intro hh
        have e : (root (sqr ax ay bx by') - 1) * (root (sqr ax ay bx by') - 1) = root (sqr ax ay bx by') * root (sqr ax ay bx by') - 2 * root (sqr ax ay bx by') + 1 := by grind
        rw [e] at hh
        have := r1.2.1
        have := r1.1
        generalize root (sqr ax ay bx by') * root (sqr ax ay bx by') = t at *
        omega] at h
      exact h
-- FRAME --

set_option maxRecDepth 100000 in
theorem lifted (os : Os) (started : os.Started) (H : Type) (enc : TypeId × Value → H) :
    ReturnsInHanded {} Try.checked os 3 .any (Rows.planeTriangleSpec.pre6 enc Try.prog Try.f3 Rows.planeTriangleRow.domain false) (Rows.planeTriangleSpec.post enc Try.prog Try.f3 false true false false) :=
  Frame.lifted (C := Try.checked) 3 Try.f3 Try.own started (by kernel_rfl) Try.func3 Try.laidOut rfl (by kernel_rfl) 4 rfl Try.underlying4
      (fun ds h => by match ds, h with | [_, _, _], _ => rfl)
      (ChangeSpec.witness6 (enc := enc) (C := Try.checked) false ⟨#[], #[.agg #[.int .i64 0, .int .i64 0], .agg #[.int .i64 0, .int .i64 0], .agg #[.int .i64 0, .int .i64 0]], []⟩ 8 (by kernel_rfl) (by kernel_rfl) (by kernel_rfl) (by kernel_rfl))
      (fun W base args ds ps hval0 hA _ => by
        have hval : ∀ (j : Nat) t v, Try.f3.params[j]? = some t → args[j]? = some v → Value.okWide Try.prog W .any base t v := hval0
        have hA' : DataW.TrodAll enc Try.prog W 0 (fun _ => true) true Try.f3.params.toList args.toList ds ps := hA
        clear hval0 hA
        have hA := hA'
        rw [Try.params3] at hA hval
        obtain ⟨v0, v1, v2, d0, d1, d2, p0, p1, p2, rfl, _, _, _, _, _⟩ := ChangeShapes.trodAll_three hA
        obtain ⟨ns_a, rfl, hl_a, hw_a⟩ := Frame.arg_flat _ Try.underlying23 (ts := [3, 3]) (by kernel_rfl) (by kernel_rfl) (by intro u hu; simp at hu; rw [hu]; exact Try.underlying3) (hval 0 _ _ rfl rfl)
        obtain ⟨a_x, a_y, rfl⟩ := Frame.list2 hl_a
        obtain ⟨ns_b, rfl, hl_b, hw_b⟩ := Frame.arg_flat _ Try.underlying23 (ts := [3, 3]) (by kernel_rfl) (by kernel_rfl) (by intro u hu; simp at hu; rw [hu]; exact Try.underlying3) (hval 1 _ _ rfl rfl)
        obtain ⟨b_x, b_y, rfl⟩ := Frame.list2 hl_b
        obtain ⟨ns_c, rfl, hl_c, hw_c⟩ := Frame.arg_flat _ Try.underlying23 (ts := [3, 3]) (by kernel_rfl) (by kernel_rfl) (by intro u hu; simp at hu; rw [hu]; exact Try.underlying3) (hval 2 _ _ rfl rfl)
        obtain ⟨c_x, c_y, rfl⟩ := Frame.list2 hl_c
        exact (walk a_x a_y b_x b_y c_x c_y W (Frame.bd (hw_a _ (by simp))) (Frame.bd (hw_a _ (by simp))) (Frame.bd (hw_b _ (by simp))) (Frame.bd (hw_b _ (by simp))) (Frame.bd (hw_c _ (by simp))) (Frame.bd (hw_c _ (by simp)))).mono fun e w' ⟨he, hw⟩ => ⟨he, hw⟩)

/-- The statement. -/
theorem proved : Rows.PlaneTriangleSaid :=
  OpenClaim.holds_of_wide 3 Try.f3 rfl rfl rfl rfl rfl rfl rfl ⟨rfl, rfl, rfl, rfl, rfl⟩ rfl rfl rfl rfl rfl (by kernel_rfl) Try.func3 (by kernel_rfl)
    (of_decide_eq_true (by kernel_rfl)) (by unfold Func.isWrapper; first | (rw [if_pos (by decide +kernel)]; kernel_rfl) | (rw [if_neg (by decide +kernel)]; exact ⟨rfl, rfl⟩))
    (fun os started H enc _ => lifted os started H enc)
#print axioms proved
end PlaneTriangle
end Go.Proofs.Ytaephikebeaibaa

