/- PlaneTurns answers true for all triples of points. -/
import Derived.Test.YtaephikebeaibaaNear
namespace Go.Proofs.Ytaephikebeaibaa
open Go.RowKit
namespace PlaneTurns
open Kit Plane
abbrev T (ax ay bx by' cx cy : Int) (r : Int) : Prop := ∀ w : World, Calls Try.prog 33 #[.agg #[.int .i64 ax, .int .i64 ay], .agg #[.int .i64 bx, .int .i64 by'], .agg #[.int .i64 cx, .int .i64 cy]] w fun e w' => e = .returned (.int .i64 r) ∧ Below w.heap.size w w'
set_option maxHeartbeats 1000000 in
theorem far (ax ay bx by' cx cy : Int) (w : World) (HN : Hid (N (px ax bx cx) (px ay by' cy) false)) :
    Calls Try.prog 8 #[.agg #[.int .i64 ax, .int .i64 ay], .agg #[.int .i64 bx, .int .i64 by'], .agg #[.int .i64 cx, .int .i64 cy]] w fun e w' => e = .returned (.bool true) ∧ Below w.heap.size w w' := by
  go_enter Try.func8, Try.ntmps8
  go_wp2_with fail
  refine (planeWorks _).mono ?_; rintro e w1 ⟨rfl, hb1⟩
  have hw := b_next (b_alloc (b_alloc (b_alloc (Below.refl _ w) _) _) _) hb1
  have pa := p2_keep hb1 (p2_alloc _ (p2_alloc _ (p2_new w _ ax ay)))
  have pb := p2_keep hb1 (p2_alloc _ (p2_new (w.alloc (.cells #[.int .i64 ax, .int .i64 ay] _)) _ bx by'))
  have pc := p2_keep hb1 (p2_new ((w.alloc (.cells #[.int .i64 ax, .int .i64 ay] _)).alloc (.cells #[.int .i64 bx, .int .i64 by'] _)) _ cx cy)
  simp only [World.size_alloc] at pb pc
  clear hb1
  go_wp2_with fail
  refine (HN.out _ _ (by simp) (near_x _ _ _ _ _ _ _ _) (near_y _ _ _ _ _ _ _ _)).mono ?_
  rintro e w2 ⟨rfl, hb2⟩
  replace hw := b_next (b_alloc hw _) hb2
  replace pa := p2_keep hb2 (p2_alloc _ pa); replace pb := p2_keep hb2 (p2_alloc _ pb); replace pc := p2_keep hb2 (p2_alloc _ pc)
  clear hb2
  go_wp2_with fail
  go_ret
  exact ⟨rfl, hw⟩
set_option maxHeartbeats 2000000 in
theorem near_ (ax ay bx by' cx cy t : Int) (w : World) (ht : -10 ≤ t ∧ t ≤ 10) (HN : Hid (N (px ax bx cx) (px ay by' cy) true)) (T1 : Hid (T ax ay bx by' cx cy t)) (T2 : Hid (T bx by' cx cy ax ay t)) (T3 : Hid (T bx by' ax ay cx cy (-t))) (T4 : Hid (T ax ay ax ay cx cy 0)) :
    Calls Try.prog 8 #[.agg #[.int .i64 ax, .int .i64 ay], .agg #[.int .i64 bx, .int .i64 by'], .agg #[.int .i64 cx, .int .i64 cy]] w fun e w' => e = .returned (.bool true) ∧ Below w.heap.size w w' := by
  go_enter Try.func8, Try.ntmps8
  go_wp2_with fail
  refine (planeWorks _).mono ?_; rintro e w1 ⟨rfl, hb1⟩
  have hw := b_next (b_alloc (b_alloc (b_alloc (Below.refl _ w) _) _) _) hb1
  have pa := p2_keep hb1 (p2_alloc _ (p2_alloc _ (p2_new w _ ax ay)))
  have pb := p2_keep hb1 (p2_alloc _ (p2_new (w.alloc (.cells #[.int .i64 ax, .int .i64 ay] _)) _ bx by'))
  have pc := p2_keep hb1 (p2_new ((w.alloc (.cells #[.int .i64 ax, .int .i64 ay] _)).alloc (.cells #[.int .i64 bx, .int .i64 by'] _)) _ cx cy)
  simp only [World.size_alloc] at pb pc
  clear hb1
  go_wp2_with fail
  refine (HN.out _ _ (by simp) (near_x _ _ _ _ _ _ _ _) (near_y _ _ _ _ _ _ _ _)).mono ?_
  rintro e w2 ⟨rfl, hb2⟩
  replace hw := b_next (b_alloc hw _) hb2
  replace pa := p2_keep hb2 (p2_alloc _ pa); replace pb := p2_keep hb2 (p2_alloc _ pb); replace pc := p2_keep hb2 (p2_alloc _ pc)
  clear hb2
  go_wp2_with fail
  refine (T1.out _).mono ?_; rintro e w3 ⟨rfl, hb⟩
  replace hw := b_next hw hb
  replace pa := p2_keep hb pa; replace pb := p2_keep hb pb; replace pc := p2_keep hb pc
  clear hb
  go_wp2_with fail
  refine (T2.out _).mono ?_; rintro e w3 ⟨rfl, hb⟩
  replace hw := b_next hw hb
  replace pa := p2_keep hb pa; replace pb := p2_keep hb pb; replace pc := p2_keep hb pc
  clear hb
  go_wp2_with fail
  refine (T3.out _).mono ?_; rintro e w3 ⟨rfl, hb⟩
  replace hw := b_next hw hb
  replace pa := p2_keep hb pa; replace pb := p2_keep hb pb; replace pc := p2_keep hb pc
  clear hb
  go_wp2_with fail
  refine (T4.out _).mono ?_; rintro e w3 ⟨rfl, hb⟩
  replace hw := b_next hw hb
  replace pa := p2_keep hb pa; replace pb := p2_keep hb pb; replace pc := p2_keep hb pc
  clear hb
  go_wp2_with fail
  go_ret
  exact ⟨rfl, hw⟩
theorem walk (ax ay bx by' cx cy : Int) (w : World) (_ : -9223372036854775808 ≤ ax ∧ ax ≤ 9223372036854775807) (_ : -9223372036854775808 ≤ ay ∧ ay ≤ 9223372036854775807) (_ : -9223372036854775808 ≤ bx ∧ bx ≤ 9223372036854775807)
    (_ : -9223372036854775808 ≤ by' ∧ by' ≤ 9223372036854775807) (_ : -9223372036854775808 ≤ cx ∧ cx ≤ 9223372036854775807) (_ : -9223372036854775808 ≤ cy ∧ cy ≤ 9223372036854775807) :
    Calls Try.prog 8 #[.agg #[.int .i64 ax, .int .i64 ay], .agg #[.int .i64 bx, .int .i64 by'], .agg #[.int .i64 cx, .int .i64 cy]] w fun e w' => e = .returned (.bool true) ∧ Below w.heap.size w w' := by
  cases hg : allGood (px ax bx cx) (px ay by' cy) 3 with
  | false => exact far ax ay bx by' cx cy w (near3 ax ay bx by' cx cy _ hg)
  | true =>
    have c := near3 ax ay bx by' cx cy _ hg
    have hg' := (allGood_iff _ _ _).1 hg
    have ga : good ax ay := hg' 0 (by omega)
    have gb : good bx by' := hg' 1 (by omega)
    have gc : good cx cy := hg' 2 (by omega)
    clear hg hg'
    have e2 : crs bx by' cx cy ax ay = crs ax ay bx by' cx cy := by unfold crs; grind
    have e3 : crs bx by' ax ay cx cy = -crs ax ay bx by' cx cy := by unfold crs; grind
    have e4 : crs ax ay ax ay cx cy = 0 := by unfold crs; grind
    have b := sgn_bd (crs ax ay bx by' cx cy)
    refine near_ ax ay bx by' cx cy (sgn (crs ax ay bx by' cx cy)) w (by omega) c (fun w => turn ax ay bx by' cx cy w rfl (by omega)) (fun w => ?_) (fun w => ?_) (fun w => ?_)
    · have h := turn bx by' cx cy ax ay w rfl (by omega); rw [e2] at h; exact h
    · have h := turn bx by' ax ay cx cy w rfl (by omega); rw [e3, sgn_opp] at h; exact h
    · have h := turn ax ay ax ay cx cy w rfl (by omega); rw [e4] at h; exact h
-- FRAME --

set_option maxRecDepth 100000 in
theorem lifted (os : Os) (started : os.Started) (H : Type) (enc : TypeId × Value → H) :
    ReturnsInHanded {} Try.checked os 8 .any (Rows.planeTurnsSpec.pre6 enc Try.prog Try.f8 Rows.planeTurnsRow.domain false) (Rows.planeTurnsSpec.post enc Try.prog Try.f8 false true false false) :=
  Frame.lifted (C := Try.checked) 8 Try.f8 Try.own started (by kernel_rfl) Try.func8 Try.laidOut rfl (by kernel_rfl) 4 rfl Try.underlying4
      (fun ds h => by match ds, h with | [_, _, _], _ => rfl)
      (ChangeSpec.witness6 (enc := enc) (C := Try.checked) false ⟨#[], #[.agg #[.int .i64 0, .int .i64 0], .agg #[.int .i64 0, .int .i64 0], .agg #[.int .i64 0, .int .i64 0]], []⟩ 8 (by kernel_rfl) (by kernel_rfl) (by kernel_rfl) (by kernel_rfl))
      (fun W base args ds ps hval0 hA _ => by
        have hval : ∀ (j : Nat) t v, Try.f8.params[j]? = some t → args[j]? = some v → Value.okWide Try.prog W .any base t v := hval0
        have hA' : DataW.TrodAll enc Try.prog W 0 (fun _ => true) true Try.f8.params.toList args.toList ds ps := hA
        clear hval0 hA
        have hA := hA'
        rw [Try.params8] at hA hval
        obtain ⟨v0, v1, v2, d0, d1, d2, p0, p1, p2, rfl, _, _, _, _, _⟩ := ChangeShapes.trodAll_three hA
        obtain ⟨ns_a, rfl, hl_a, hw_a⟩ := Frame.arg_flat _ Try.underlying23 (ts := [3, 3]) (by kernel_rfl) (by kernel_rfl) (by intro u hu; simp at hu; rw [hu]; exact Try.underlying3) (hval 0 _ _ rfl rfl)
        obtain ⟨a_x, a_y, rfl⟩ := Frame.list2 hl_a
        obtain ⟨ns_b, rfl, hl_b, hw_b⟩ := Frame.arg_flat _ Try.underlying23 (ts := [3, 3]) (by kernel_rfl) (by kernel_rfl) (by intro u hu; simp at hu; rw [hu]; exact Try.underlying3) (hval 1 _ _ rfl rfl)
        obtain ⟨b_x, b_y, rfl⟩ := Frame.list2 hl_b
        obtain ⟨ns_c, rfl, hl_c, hw_c⟩ := Frame.arg_flat _ Try.underlying23 (ts := [3, 3]) (by kernel_rfl) (by kernel_rfl) (by intro u hu; simp at hu; rw [hu]; exact Try.underlying3) (hval 2 _ _ rfl rfl)
        obtain ⟨c_x, c_y, rfl⟩ := Frame.list2 hl_c
        exact (walk a_x a_y b_x b_y c_x c_y W (Frame.bd (hw_a _ (by simp))) (Frame.bd (hw_a _ (by simp))) (Frame.bd (hw_b _ (by simp))) (Frame.bd (hw_b _ (by simp))) (Frame.bd (hw_c _ (by simp))) (Frame.bd (hw_c _ (by simp)))).mono fun e w' ⟨he, hw⟩ => ⟨he, hw⟩)

/-- The statement. -/
theorem proved : Rows.PlaneTurnsSaid :=
  OpenClaim.holds_of_wide 8 Try.f8 rfl rfl rfl rfl rfl rfl rfl ⟨rfl, rfl, rfl, rfl, rfl⟩ rfl rfl rfl rfl rfl (by kernel_rfl) Try.func8 (by kernel_rfl)
    (of_decide_eq_true (by kernel_rfl)) (by unfold Func.isWrapper; first | (rw [if_pos (by decide +kernel)]; kernel_rfl) | (rw [if_neg (by decide +kernel)]; exact ⟨rfl, rfl⟩))
    (fun os started H enc _ => lifted os started H enc)
#print axioms proved
end PlaneTurns
end Go.Proofs.Ytaephikebeaibaa

