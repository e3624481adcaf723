/- PlaneVectors answers true for all pairs of vectors. -/
import Derived.Test.YtaephikebeaibaaNear
import Derived.RegionTactic
import Derived.ChangeAlike
namespace Go.Proofs.Ytaephikebeaibaa
open Go.RowKit
namespace PlaneVectors
open Kit Plane
abbrev V (f : FuncId) (ax ay bx by' : Int) (r : Int) : Prop := ∀ w : World, Calls Try.prog f #[.agg #[.int .i64 ax, .int .i64 ay], .agg #[.int .i64 bx, .int .i64 by']] w fun e w' => e = .returned (.int .i64 r) ∧ Below w.heap.size w w'
set_option maxHeartbeats 2000000 in
theorem walk0 (ax ay bx by' d c p q : Int) (w : World) (hax : -9223372036854775808 ≤ ax ∧ ax ≤ 9223372036854775807) (hay : -9223372036854775808 ≤ ay ∧ ay ≤ 9223372036854775807) (e1 : wrap64 (wrap64 (ax + bx) - bx) = ax) (e2 : wrap64 (wrap64 (ay + by') - by') = ay)
    (C1 : Hid (V 22 (ax.tmod 20000) (ay.tmod 20000) (bx.tmod 20000) (by'.tmod 20000) d)) (C2 : Hid (V 23 (ax.tmod 20000) (ay.tmod 20000) (bx.tmod 20000) (by'.tmod 20000) c))
    (C3 : Hid (V 22 (ax.tmod 20000) (ay.tmod 20000) (ax.tmod 20000) (ay.tmod 20000) p)) (C4 : Hid (V 22 (bx.tmod 20000) (by'.tmod 20000) (bx.tmod 20000) (by'.tmod 20000) q))
    (h1 : 0 ≤ d * d ∧ d * d ≤ 1000000000000000000) (h2 : 0 ≤ c * c ∧ c * c ≤ 1000000000000000000) (h3 : 0 ≤ p * q ∧ p * q ≤ 1000000000000000000) (he : (d * d + c * c == p * q) = true) :
    Calls Try.prog 4 #[.agg #[.int .i64 ax, .int .i64 ay], .agg #[.int .i64 bx, .int .i64 by']] w fun e w' => e = .returned (.bool true) ∧ Below w.heap.size w w' := by
  go_enter Try.func4, Try.ntmps4
  go_wp2_with fail
  refine (planeWorks _).mono ?_; rintro e w1 ⟨rfl, hb1⟩
  have hw := b_next (b_alloc (b_alloc (Below.refl _ w) _) _) hb1
  have pa := p2_keep hb1 (p2_alloc _ (p2_new w _ ax ay))
  have pb := p2_keep hb1 (p2_new1 w _ _ bx by')
  have fa : w1.frozen? ⟨w.heap.size, 0, none⟩ = false := keepF hb1 (p2_alloc _ (p2_new w _ ax ay)).1 (by simp)
  have fb : w1.frozen? ⟨w.heap.size + 1, 0, none⟩ = false := keepF hb1 (p2_new1 w _ _ bx by').1 (by simp)
  have fa' : w1.frozen? ⟨w.heap.size, 1, none⟩ = false := keepF hb1 (p2_alloc _ (p2_new w _ ax ay)).2 (by simp)
  have fb' : w1.frozen? ⟨w.heap.size + 1, 1, none⟩ = false := keepF hb1 (p2_new1 w _ _ bx by').2 (by simp)
  clear hb1
  go_wp2_with fail
  refine region_below (by kernel_rfl) (by kernel_rfl) ?_
  repeat
    (refine q_step rfl ?_
     apply Exists.intro
     refine ⟨fun wq hc hq => ?_, ?_⟩
     · have pa' := p2_keep hq pa; have pb' := p2_keep hq pb; clear hc
       go_simp
       first
         | rfl
         | (go_at_call 20; exact call_below hq (sub _ _ _ _ _))
         | (go_at_call 21; exact call_below hq (add _ _ _ _ _))
     simp only [Act.put, List.setIfInBounds_toArray, List.set_cons_zero, List.set_cons_succ])
  refine wpQuiet_nil ?_
  intro w2 hb2
  have fa0 : w2.frozen? ⟨w.heap.size, 0, none⟩ = false := keepF hb2 pa.1 fa
  have fa1 : w2.frozen? ⟨w.heap.size, 1, none⟩ = false := keepF hb2 pa.2 fa'
  have fb0 : w2.frozen? ⟨w.heap.size + 1, 0, none⟩ = false := keepF hb2 pb.1 fb
  have fb1 : w2.frozen? ⟨w.heap.size + 1, 1, none⟩ = false := keepF hb2 pb.2 fb'
  replace pa := p2_keep hb2 pa; replace pb := p2_keep hb2 pb
  replace hw := b_next hw hb2
  clear hb2 fa fb fa' fb'
  go_wp2_with fail
  go_region
  go_wp2_with fail
  obtain ⟨W, hW⟩ : ∃ W, W = ((((w2.setCell ⟨w.heap.size, 0, none⟩ (.int .i64 (ax.tmod 20000))).setCell ⟨w.heap.size, 1, none⟩ (.int .i64 (ay.tmod 20000))).setCell ⟨w.heap.size + 1, 0, none⟩ (.int .i64 (bx.tmod 20000))).setCell ⟨w.heap.size + 1, 1, none⟩ (.int .i64 (by'.tmod 20000))).drew := ⟨_, rfl⟩
  rw [← hW]
  have hw3 : Below w.heap.size w W := by
    rw [hW]
    exact b_drew (b_set (b_set (b_set (b_set hw (Nat.le_refl _) _) (Nat.le_refl _) _) (Nat.le_succ _) _) (Nat.le_succ _) _)
  have pa3 : P2 W w.heap.size (ax.tmod 20000) (ay.tmod 20000) := by
    rw [hW]; exact p2_far _ _ (by simp) (p2_far _ _ (by simp) (p2_set1 _ (p2_set0 _ pa)))
  have pb3 : P2 W (w.heap.size + 1) (bx.tmod 20000) (by'.tmod 20000) := by
    rw [hW]; exact p2_set1 _ (p2_set0 _ (p2_far _ _ (by simp) (p2_far _ _ (by simp) pb)))
  clear hW pa pb hw fa0 fa1 fb0 fb1 e1 e2 hax hay
  generalize ax.tmod 20000 = AX at *
  generalize ay.tmod 20000 = AY at *
  generalize bx.tmod 20000 = BX at *
  generalize by'.tmod 20000 = BY at *
  refine region_below (by kernel_rfl) (by kernel_rfl) ?_
  repeat
    (refine q_step rfl ?_
     apply Exists.intro
     refine ⟨fun wq hc hq => ?_, ?_⟩
     · have pa' := p2_keep hq pa3; have pb' := p2_keep hq pb3; clear hc
       go_simp
       first
         | rfl
         | (go_at_call 22; exact call_below hq (C1.out _))
         | (go_at_call 23; exact call_below hq (C2.out _))
     simp only [Act.put, List.setIfInBounds_toArray, List.set_cons_zero, List.set_cons_succ])
  refine wpQuiet_nil ?_
  intro w4 hb4
  replace pa3 := p2_keep hb4 pa3; replace pb3 := p2_keep hb4 pb3
  replace hw3 := b_next hw3 hb4
  clear hb4
  go_wp2_with fail
  refine region_below (by kernel_rfl) (by kernel_rfl) ?_
  repeat
    (refine q_step rfl ?_
     apply Exists.intro
     refine ⟨fun wq hc hq => ?_, ?_⟩
     · have pa' := p2_keep hq pa3; have pb' := p2_keep hq pb3; clear hc
       go_simp
       first
         | rfl
         | (go_at_call 22; (with_reducible exact call_below hq (C3.out _)))
         | (go_at_call 22; (with_reducible exact call_below hq (C4.out _)))
     simp only [Act.put, List.setIfInBounds_toArray, List.set_cons_zero, List.set_cons_succ])
  refine wpQuiet_nil ?_
  intro w5 hb5
  replace hw3 := b_next hw3 hb5
  clear hb5
  go_wp2_with fail
  go_ret
  have t4 : IntKind.i64.wrap (p * q) = p * q := IntWalk.i64_in _ (by omega)
  have t1 : IntKind.i64.wrap (d * d) = d * d := IntWalk.i64_in _ (by omega)
  have t2 : IntKind.i64.wrap (c * c) = c * c := IntWalk.i64_in _ (by omega)
  have t3 : IntKind.i64.wrap (d * d + c * c) = d * d + c * c := IntWalk.i64_in _ (by omega)
  exact ⟨retb (by rw [t1, t2, t3, t4]; exact he), hw3⟩
theorem back (a b : Int) (ha : -9223372036854775808 ≤ a ∧ a ≤ 9223372036854775807) : wrap64 (wrap64 (a + b) - b) = a := by unfold wrap64; omega
theorem mod_bd (a : Int) : -19999 ≤ a.tmod 20000 ∧ a.tmod 20000 ≤ 19999 := by
  obtain ⟨_, _, _, h4, _⟩ := Num.tdiv_facts a 20000 (by omega)
  have := h4 (by omega)
  omega
theorem walk (ax ay bx by' : Int) (w : World) (hax : -9223372036854775808 ≤ ax ∧ ax ≤ 9223372036854775807) (hay : -9223372036854775808 ≤ ay ∧ ay ≤ 9223372036854775807) (_ : -9223372036854775808 ≤ bx ∧ bx ≤ 9223372036854775807)
    (_ : -9223372036854775808 ≤ by' ∧ by' ≤ 9223372036854775807) :
    Calls Try.prog 4 #[.agg #[.int .i64 ax, .int .i64 ay], .agg #[.int .i64 bx, .int .i64 by']] w fun e w' => e = .returned (.bool true) ∧ Below w.heap.size w w' := by
  have m1 := mod_bd ax; have m2 := mod_bd ay; have m3 := mod_bd bx; have m4 := mod_bd by'
  have dotE : ∀ a b c d : Int, (-19999 ≤ a ∧ a ≤ 19999) → (-19999 ≤ b ∧ b ≤ 19999) → (-19999 ≤ c ∧ c ≤ 19999) → (-19999 ≤ d ∧ d ≤ 19999) → V 22 a b c d (a * c + b * d) ∧ -1000000000 ≤ a * c + b * d ∧ a * c + b * d ≤ 1000000000 := fun a b c d h1 h2 h3 h4 => by
    have b1 := mul_bd (x := a) (y := c) (M := 19999) (N := 19999) (by omega) (by omega)
    have b2 := mul_bd (x := b) (y := d) (M := 19999) (N := 19999) (by omega) (by omega)
    refine ⟨fun w => ?_, by omega, by omega⟩
    have h := dot a b c d w
    rw [IntWalk.wrap64_in (a * c) (by omega), IntWalk.wrap64_in (b * d) (by omega), IntWalk.wrap64_in (a * c + b * d) (by omega)] at h
    exact h
  have crsE : ∀ a b c d : Int, (-19999 ≤ a ∧ a ≤ 19999) → (-19999 ≤ b ∧ b ≤ 19999) → (-19999 ≤ c ∧ c ≤ 19999) → (-19999 ≤ d ∧ d ≤ 19999) → V 23 a b c d (a * d - b * c) ∧ -1000000000 ≤ a * d - b * c ∧ a * d - b * c ≤ 1000000000 := fun a b c d h1 h2 h3 h4 => by
    have b1 := mul_bd (x := a) (y := d) (M := 19999) (N := 19999) (by omega) (by omega)
    have b2 := mul_bd (x := b) (y := c) (M := 19999) (N := 19999) (by omega) (by omega)
    refine ⟨fun w => ?_, by omega, by omega⟩
    have h := cross a b c d w
    rw [IntWalk.wrap64_in (a * d) (by omega), IntWalk.wrap64_in (b * c) (by omega), IntWalk.wrap64_in (a * d - b * c) (by omega)] at h
    exact h
  obtain ⟨c1, l1⟩ := dotE _ _ _ _ m1 m2 m3 m4
  obtain ⟨c2, l2⟩ := crsE _ _ _ _ m1 m2 m3 m4
  obtain ⟨c3, l3⟩ := dotE _ _ _ _ m1 m2 m1 m2
  obtain ⟨c4, l4⟩ := dotE _ _ _ _ m3 m4 m3 m4
  have q1 := sq_le_of (M := 1000000000) l1
  have q2 := sq_le_of (M := 1000000000) l2
  have q3 := mul_bd (M := 1000000000) (N := 1000000000) l3 l4
  have e : (ax.tmod 20000 * bx.tmod 20000 + ay.tmod 20000 * by'.tmod 20000) * (ax.tmod 20000 * bx.tmod 20000 + ay.tmod 20000 * by'.tmod 20000) + (ax.tmod 20000 * by'.tmod 20000 - ay.tmod 20000 * bx.tmod 20000) * (ax.tmod 20000 * by'.tmod 20000 - ay.tmod 20000 * bx.tmod 20000)
      = (ax.tmod 20000 * ax.tmod 20000 + ay.tmod 20000 * ay.tmod 20000) * (bx.tmod 20000 * bx.tmod 20000 + by'.tmod 20000 * by'.tmod 20000) := by
    generalize ax.tmod 20000 = a; generalize ay.tmod 20000 = b; generalize bx.tmod 20000 = c; generalize by'.tmod 20000 = d
    grind
  have p0 : 0 ≤ (ax.tmod 20000 * ax.tmod 20000 + ay.tmod 20000 * ay.tmod 20000) * (bx.tmod 20000 * bx.tmod 20000 + by'.tmod 20000 * by'.tmod 20000) := by
    rw [← e]; have := sq_nonneg (ax.tmod 20000 * bx.tmod 20000 + ay.tmod 20000 * by'.tmod 20000); have := sq_nonneg (ax.tmod 20000 * by'.tmod 20000 - ay.tmod 20000 * bx.tmod 20000); omega
  exact walk0 ax ay bx by' _ _ _ _ w hax hay (back ax bx hax) (back ay by' hay) c1 c2 c3 c4 ⟨sq_nonneg _, q1⟩ ⟨sq_nonneg _, q2⟩ ⟨p0, q3.2⟩ (by rw [beq_iff_eq]; exact e)
-- FRAME --

set_option maxRecDepth 100000 in
theorem lifted (os : Os) (started : os.Started) (H : Type) (enc : TypeId × Value → H) :
    ReturnsInHanded {} Try.checked os 4 .any (Rows.planeVectorsSpec.pre6 enc Try.prog Try.f4 Rows.planeVectorsRow.domain false) (Rows.planeVectorsSpec.post enc Try.prog Try.f4 false true false false) :=
  Frame.lifted (C := Try.checked) 4 Try.f4 Try.own started (by kernel_rfl) Try.func4 Try.laidOut rfl (by kernel_rfl) 4 rfl Try.underlying4
      (fun ds h => by match ds, h with | [_, _], _ => rfl)
      (ChangeSpec.witness6 (enc := enc) (C := Try.checked) false ⟨#[], #[.agg #[.int .i64 0, .int .i64 0], .agg #[.int .i64 0, .int .i64 0]], []⟩ 8 (by kernel_rfl) (by kernel_rfl) (by kernel_rfl) (by kernel_rfl))
      (fun W base args ds ps hval0 hA _ => by
        have hval : ∀ (j : Nat) t v, Try.f4.params[j]? = some t → args[j]? = some v → Value.okWide Try.prog W .any base t v := hval0
        have hA' : DataW.TrodAll enc Try.prog W 0 (fun _ => true) true Try.f4.params.toList args.toList ds ps := hA
        clear hval0 hA
        have hA := hA'
        rw [Try.params4] at hA hval
        obtain ⟨v0, v1, d0, d1, p0, p1, rfl, _, _, _, _⟩ := ChangeShapes.trodAll_two hA
        obtain ⟨ns_a, rfl, hl_a, hw_a⟩ := Frame.arg_flat _ Try.underlying23 (ts := [3, 3]) (by kernel_rfl) (by kernel_rfl) (by intro u hu; simp at hu; rw [hu]; exact Try.underlying3) (hval 0 _ _ rfl rfl)
        obtain ⟨a_x, a_y, rfl⟩ := Frame.list2 hl_a
        obtain ⟨ns_b, rfl, hl_b, hw_b⟩ := Frame.arg_flat _ Try.underlying23 (ts := [3, 3]) (by kernel_rfl) (by kernel_rfl) (by intro u hu; simp at hu; rw [hu]; exact Try.underlying3) (hval 1 _ _ rfl rfl)
        obtain ⟨b_x, b_y, rfl⟩ := Frame.list2 hl_b
        exact (walk a_x a_y b_x b_y W (Frame.bd (hw_a _ (by simp))) (Frame.bd (hw_a _ (by simp))) (Frame.bd (hw_b _ (by simp))) (Frame.bd (hw_b _ (by simp)))).mono fun e w' ⟨he, hw⟩ => ⟨he, hw⟩)

/-- The statement. -/
theorem proved : Rows.PlaneVectorsSaid :=
  OpenClaim.holds_of_wide 4 Try.f4 rfl rfl rfl rfl rfl rfl rfl ⟨rfl, rfl, rfl, rfl, rfl⟩ rfl rfl rfl rfl rfl (by kernel_rfl) Try.func4 (by kernel_rfl)
    (of_decide_eq_true (by kernel_rfl)) (by unfold Func.isWrapper; first | (rw [if_pos (by decide +kernel)]; kernel_rfl) | (rw [if_neg (by decide +kernel)]; exact ⟨rfl, rfl⟩))
    (fun os started H enc _ => lifted os started H enc)
#print axioms proved
end PlaneVectors
end Go.Proofs.Ytaephikebeaibaa

