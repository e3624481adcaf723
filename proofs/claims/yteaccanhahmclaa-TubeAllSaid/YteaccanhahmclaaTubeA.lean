/- What ends, at and At of package tube return. -/
import Derived.Test.YteaccanhahmclaaTubeS
import Derived.Test.YteaccanhahmclaaFreshU
namespace Go.Proofs.Yteaccanhahmclaa
open Go.RowKit
namespace Kit
theorem blk_b6 {w : World} {b : Nat} {ty : TypeId} {t x y h r d : Int} (hh : w.heap[b]? = some (.cells #[.int .i64 t, .int .i64 x, .int .i64 y, .int .i64 h, .int .i64 r, .int .i64 d] ty (0, 0))) : Tube.D6 w b t x y h r d :=
  ⟨⟨blk_cell hh 0, blk_cell hh 1, blk_cell hh 2⟩, ⟨blk_cell hh 3, blk_cell hh 4, blk_cell hh 5⟩⟩
end Kit
namespace Tube
open Kit Plane
/-- Six cells that may be written. -/
abbrev F6 (w : World) (b : Nat) : Prop := (w.frozen? ⟨b, 0, none⟩ = false ∧ w.frozen? ⟨b, 1, none⟩ = false ∧ w.frozen? ⟨b, 2, none⟩ = false) ∧ (w.frozen? ⟨b, 3, none⟩ = false ∧ w.frozen? ⟨b, 4, none⟩ = false ∧ w.frozen? ⟨b, 5, none⟩ = false)
abbrev Z6 (w : World) (b : Nat) (t x y h r d : Int) : Prop := D6 w b t x y h r d ∧ F6 w b
theorem z6_new (w : World) (ty : TypeId) (t x y h r d : Int) : Z6 (w.alloc (.cells #[.int .i64 t, .int .i64 x, .int .i64 y, .int .i64 h, .int .i64 r, .int .i64 d] ty)) w.heap.size t x y h r d := ⟨d6_new w ty t x y h r d, ⟨by simp, by simp, by simp⟩, ⟨by simp, by simp, by simp⟩⟩
theorem z6_keep {W w1 : World} (hb : Below W.heap.size W w1) {b : Nat} {t x y z r d : Int} (h : Z6 W b t x y z r d) : Z6 w1 b t x y z r d :=
  ⟨d6_keep hb h.1, ⟨keepF hb h.1.1.1 h.2.1.1, keepF hb h.1.1.2.1 h.2.1.2.1, keepF hb h.1.1.2.2 h.2.1.2.2⟩, ⟨keepF hb h.1.2.1 h.2.2.1, keepF hb h.1.2.2.1 h.2.2.2.1, keepF hb h.1.2.2.2 h.2.2.2.2⟩⟩
theorem d6_set {W : World} {b : Nat} {t x y h r d : Int} (t' x' y' h' r' d' : Int) (hc : D6 W b t x y h r d) :
    D6 ((((((W.setCell ⟨b, 0, none⟩ (.int .i64 t')).setCell ⟨b, 1, none⟩ (.int .i64 x')).setCell ⟨b, 2, none⟩ (.int .i64 y')).setCell ⟨b, 3, none⟩ (.int .i64 h')).setCell ⟨b, 4, none⟩ (.int .i64 r')).setCell ⟨b, 5, none⟩ (.int .i64 d')) b t' x' y' h' r' d' := by
  obtain ⟨⟨c0, c1, c2⟩, c3, c4, c5⟩ := hc
  refine ⟨⟨?_, ?_, ?_⟩, ?_, ?_, ?_⟩
  · exact cfar _ (by simp) (cfar _ (by simp) (cfar _ (by simp) (cfar _ (by simp) (cfar _ (by simp) (cset _ c0)))))
  · exact cfar _ (by simp) (cfar _ (by simp) (cfar _ (by simp) (cfar _ (by simp) (cset _ (cfar _ (by simp) c1)))))
  · exact cfar _ (by simp) (cfar _ (by simp) (cfar _ (by simp) (cset _ (cfar _ (by simp) (cfar _ (by simp) c2)))))
  · exact cfar _ (by simp) (cfar _ (by simp) (cset _ (cfar _ (by simp) (cfar _ (by simp) (cfar _ (by simp) c3)))))
  · exact cfar _ (by simp) (cset _ (cfar _ (by simp) (cfar _ (by simp) (cfar _ (by simp) (cfar _ (by simp) c4)))))
  · exact cset _ (cfar _ (by simp) (cfar _ (by simp) (cfar _ (by simp) (cfar _ (by simp) (cfar _ (by simp) c5)))))
theorem b_set6' {w W : World} {b : Nat} (h : Below w.heap.size w W) (hb : w.heap.size ≤ b) (u0 u1 u2 u3 u4 u5 : Value) : Below w.heap.size w ((((((W.setCell ⟨b, 0, none⟩ u0).setCell ⟨b, 1, none⟩ u1).setCell ⟨b, 2, none⟩ u2).setCell ⟨b, 3, none⟩ u3).setCell ⟨b, 4, none⟩ u4).setCell ⟨b, 5, none⟩ u5) :=
  b_set (b_set (b_set (b_set (b_set (b_set h hb _) hb _) hb _) hb _) hb _) hb _
set_option maxHeartbeats 1000000 in
theorem ends_w (n cap b off : Nat) (T X Y H R B : Nat → Int) (w : World) (h0 : 0 < n) (hn : n ≤ 64) (_hc : n ≤ cap) (_hm : cap ≤ 9223372036854775807) (HV : Hid (∀ k, k < n → S6 w b (off + k * 6) (T k) (X k) (Y k) (H k) (R k) (B k))) :
    Calls Try.prog 83 #[.slice (some ⟨b, off, none⟩) n cap] w fun e w' => e = .returned (.tuple #[.int .i64 (T 0), .int .i64 (T (n - 1))]) ∧ Below w.heap.size w w' := by
  go_enter Try.func83, Try.ntmps83
  have e0 := HV.out 0 h0
  rw [Nat.zero_mul, Nat.add_zero] at e0
  have E0 := Lib.hid e0; have E1 := Lib.hid (HV.out (n - 1) (by omega)); clear e0
  have u0 : (0 : Int) < (n : Int) := by omega
  have u1 : IntKind.i64.wrap ((n : Int) - 1) = ((n - 1 : Nat) : Int) := by rw [IntWalk.i64_in _ (by omega)]; omega
  have u2 : ((n - 1 : Nat) : Int) < (n : Int) := by omega
  go_wp2_with fail
  refine d_region (by kernel_rfl) (by kernel_rfl) ?_
  repeat
    first
      | (refine d_plain (by with_reducible rfl) ?_; apply Exists.intro; refine ⟨fun wq hc hq => ?_, ?_⟩)
      | (refine d_on (by with_reducible rfl) (by rfl) (by with_reducible rfl) ?_; apply Exists.intro; refine ⟨fun wq hc hq => ?_, ?_⟩)
      | (refine d_off (by with_reducible rfl) (by rfl) (by rfl) ?_)
      | (refine d_void (by with_reducible rfl) (by rfl) ?_)
    try any_goals
      (have q0 := s6_keep (cls hq) E0.out; have q1 := s6_keep (cls hq) E1.out; clear hc
       go_simp
       first
         | rfl)
    simp only [Act.put, List.setIfInBounds_toArray, List.set_cons_zero, List.set_cons_succ]
  refine d_nil ?_
  intro w1 hb1
  go_wp2_with fail
  go_ret2
  exact ⟨rfl, hb1⟩
abbrev SrC (v : Value) (t : Int) (i : Nat) (f : Bool) (w : World) : Prop := ∀ w1 : World, Below w.heap.size w w1 → Calls Try.prog 133 #[v, .int .i64 t, .func (.func 134) #[] #[]] w1 fun e w' => e = .returned (.tuple #[.int .i64 i, .bool f]) ∧ Below w1.heap.size w1 w'
set_option maxHeartbeats 1000000 in
theorem at_exact (n cap b off : Nat) (T X Y H R B : Nat → Int) (t : Int) (i : Nat) (w : World) (hi : i < n) (_hn : n ≤ 64) (_hc : n ≤ cap) (_hm : cap ≤ 9223372036854775807) (HV : Hid (∀ k, k < n → S6 w b (off + k * 6) (T k) (X k) (Y k) (H k) (R k) (B k))) (S : Hid (SrC (.slice (some ⟨b, off, none⟩) n cap) t i true w)) :
    Calls Try.prog 84 #[.slice (some ⟨b, off, none⟩) n cap, .int .i64 t] w fun e w' => e = .returned (.agg #[.int .i64 (T i), .int .i64 (X i), .int .i64 (Y i), .int .i64 (H i), .int .i64 (R i), .int .i64 (B i)]) ∧ Below w.heap.size w w' := by
  go_enter Try.func84, Try.ntmps84
  have hz := z6_new w 70 0 0 0 0 0 0
  have hw := b_alloc (Below.refl w.heap.size w) (.cells #[.int .i64 0, .int .i64 0, .int .i64 0, .int .i64 0, .int .i64 0, .int .i64 0] 70)
  have HZ := Lib.hid (And.intro hz hw); clear hz hw
  go_wp2_with fail
  refine (S.out _ HZ.out.2).mono ?_; rintro e w1 ⟨rfl, h⟩
  have hz := z6_keep h HZ.out.1; have hw := b_next HZ.out.2 h; clear h
  have e0 := s6_keep hw (HV.out i hi)
  have hin : (i : Int) < (n : Int) := by omega
  go_wp2_with fail
  have c := d6_set (T i) (X i) (Y i) (H i) (R i) (B i) hz.1
  refine bodyPost_ret (v := .agg #[.int .i64 (T i), .int .i64 (X i), .int .i64 (Y i), .int .i64 (H i), .int .i64 (R i), .int .i64 (B i)]) (by simp [results, Try.results84, go_sem, c.1.1, c.1.2.1, c.1.2.2, c.2.1, c.2.2.1, c.2.2.2]) rfl ⟨rfl, b_set6' hw (Nat.le_refl _) _ _ _ _ _ _⟩
abbrev DvC (f : FuncId) (a d q : Int) : Prop := ∀ w : World, Calls Try.prog f #[.int .i64 a, .int .i64 d] w fun e w' => e = .returned (.tuple #[.int .i64 q, .int .i64 0]) ∧ w = w'
set_option maxRecDepth 100000 in
set_option maxHeartbeats 1000000 in
theorem at_between (n cap b off : Nat) (T X Y H R B : Nat → Int) (t : Int) (i : Nat) (w : World) (hi : i + 1 < n) (_hn : n ≤ 64) (hc : n ≤ cap) (hm : cap ≤ 9223372036854775807) (HV : Hid (∀ k, k < n → S6 w b (off + k * 6) (T k) (X k) (Y k) (H k) (R k) (B k))) (S : Hid (SrC (.slice (some ⟨b, off, none⟩) n cap) t (i + 1) false w)) (dx dy q1 q2 q3 : Int)
    (TW : Hid (∀ w : World, Calls Try.prog 135 #[.agg #[.int .i64 (X i), .int .i64 (Y i)], .agg #[.int .i64 (X (i + 1)), .int .i64 (Y (i + 1))], .int .i64 (t - T i), .int .i64 (T (i + 1) - T i)] w fun e w' => e = .returned (.tuple #[.agg #[.int .i64 dx, .int .i64 dy], .int .i64 0]) ∧ Below w.heap.size w w'))
    (D1 : Hid (DvC 136 ((H (i + 1) - H i) * (t - T i)) (T (i + 1) - T i) q1)) (D2 : Hid (DvC 131 ((R (i + 1) - R i) * (t - T i)) (T (i + 1) - T i) q2)) (D3 : Hid (DvC 131 ((B (i + 1) - B i) * (t - T i)) (T (i + 1) - T i) q3))
    (b1 : 0 ≤ T i ∧ T i ≤ t ∧ t ≤ T (i + 1) ∧ T (i + 1) ≤ 200000) (b2 : 0 ≤ H i ∧ H i ≤ 60000 ∧ 0 ≤ H (i + 1) ∧ H (i + 1) ≤ 60000 ∧ -60000 ≤ q1 ∧ q1 ≤ 60000) (b3 : 0 ≤ R i ∧ R i ≤ 1000000 ∧ 0 ≤ R (i + 1) ∧ R (i + 1) ≤ 1000000 ∧ -1000000 ≤ q2 ∧ q2 ≤ 1000000) (b4 : 0 ≤ B i ∧ B i ≤ 60000 ∧ 0 ≤ B (i + 1) ∧ B (i + 1) ≤ 60000 ∧ -60000 ≤ q3 ∧ q3 ≤ 60000)
    (m1 : -12000000000 ≤ (H (i + 1) - H i) * (t - T i) ∧ (H (i + 1) - H i) * (t - T i) ≤ 12000000000) (m2 : -200000000000 ≤ (R (i + 1) - R i) * (t - T i) ∧ (R (i + 1) - R i) * (t - T i) ≤ 200000000000) (m3 : -12000000000 ≤ (B (i + 1) - B i) * (t - T i) ∧ (B (i + 1) - B i) * (t - T i) ≤ 12000000000) :
    Calls Try.prog 84 #[.slice (some ⟨b, off, none⟩) n cap, .int .i64 t] w fun e w' => e = .returned (.agg #[.int .i64 t, .int .i64 dx, .int .i64 dy, .int .i64 (H i + q1), .int .i64 (R i + q2), .int .i64 (B i + q3)]) ∧ Below w.heap.size w w' := by
  go_enter Try.func84, Try.ntmps84
  have hz := z6_new w 70 0 0 0 0 0 0
  have hw := b_alloc (Below.refl w.heap.size w) (.cells #[.int .i64 0, .int .i64 0, .int .i64 0, .int .i64 0, .int .i64 0, .int .i64 0] 70)
  have HZ := Lib.hid (And.intro hz hw); clear hz hw
  go_wp2_with fail
  refine (S.out _ HZ.out.2).mono ?_; rintro e w1 ⟨rfl, h⟩
  have hz := z6_keep h HZ.out.1; have hw := b_next HZ.out.2 h; clear h
  have E0 := Lib.hid (s6_keep hw (HV.out i (by omega))); have E1 := Lib.hid (s6_keep hw (HV.out (i + 1) hi))
  have hin : (i : Int) < (n : Int) := by omega
  have hin2 : (i : Int) + 1 < (n : Int) := by omega
  have u1 : IntKind.i64.wrap (i : Int) = (i : Int) := IntWalk.i64_in _ (by omega)
  have v1 : IntKind.i64.wrap (t - T i) = t - T i := IntWalk.i64_in _ (by omega)
  have v2 : IntKind.i64.wrap (T (i + 1) - T i) = T (i + 1) - T i := IntWalk.i64_in _ (by omega)
  have HZ1 := Lib.hid hz; have HW1 := Lib.hid hw; clear hz hw
  go_wp2_with fail
  refine fresh_region (by kernel_rfl) (by kernel_rfl) ?_
  apply Fq.r
  · intro wq hc hq
    (have q0 := s6_keep (cls hq) E0.out; have q1 := s6_keep (cls hq) E1.out; clear hc; go_simp; first | exact q2_value | exact q2_skip)
  simp only [Act.put, List.setIfInBounds_toArray, List.set_cons_zero, List.set_cons_succ]
  apply Fq.r
  · intro wq hc hq
    (have q0 := s6_keep (cls hq) E0.out; have q1 := s6_keep (cls hq) E1.out; clear hc; go_simp; first | exact q2_value | exact q2_skip)
  simp only [Act.put, List.setIfInBounds_toArray, List.set_cons_zero, List.set_cons_succ]
  apply Fq.r
  · intro wq hc hq
    (have q0 := s6_keep (cls hq) E0.out; have q1 := s6_keep (cls hq) E1.out; clear hc; go_simp; first | exact q2_value | exact q2_skip)
  simp only [Act.put, List.setIfInBounds_toArray, List.set_cons_zero, List.set_cons_succ]
  apply Fq.r
  · intro wq hc hq
    (have q0 := s6_keep (cls hq) E0.out; have q1 := s6_keep (cls hq) E1.out; clear hc; go_simp; first | exact q2_value | exact q2_skip)
  simp only [Act.put, List.setIfInBounds_toArray, List.set_cons_zero, List.set_cons_succ]
  apply Fq.r
  · intro wq hc hq
    (have q0 := s6_keep (cls hq) E0.out; have q1 := s6_keep (cls hq) E1.out; clear hc; go_simp; first | exact q2_value | exact q2_skip)
  simp only [Act.put, List.setIfInBounds_toArray, List.set_cons_zero, List.set_cons_succ]
  apply Fq.r
  · intro wq hc hq
    (have q0 := s6_keep (cls hq) E0.out; have q1 := s6_keep (cls hq) E1.out; clear hc; go_simp; first | exact q2_value | exact q2_skip)
  simp only [Act.put, List.setIfInBounds_toArray, List.set_cons_zero, List.set_cons_succ]
  apply Fq.r
  · intro wq hc hq
    (have q0 := s6_keep (cls hq) E0.out; have q1 := s6_keep (cls hq) E1.out; clear hc; go_simp; first | exact q2_value | exact q2_skip)
  simp only [Act.put, List.setIfInBounds_toArray, List.set_cons_zero, List.set_cons_succ]
  apply Fq.r
  · intro wq hc hq
    (have q0 := s6_keep (cls hq) E0.out; have q1 := s6_keep (cls hq) E1.out; clear hc; go_simp; first | exact q2_value | exact q2_skip)
  simp only [Act.put, List.setIfInBounds_toArray, List.set_cons_zero, List.set_cons_succ]
  apply Fq.r
  · intro wq hc hq
    (have q0 := s6_keep (cls hq) E0.out; have q1 := s6_keep (cls hq) E1.out; clear hc; go_simp; first | exact q2_value | exact q2_skip)
  simp only [Act.put, List.setIfInBounds_toArray, List.set_cons_zero, List.set_cons_succ]
  refine Fq.al 7 70 #[.int .i64 0, .int .i64 0, .int .i64 0, .int .i64 0, .int .i64 0, .int .i64 0] rfl (by simp) (fun wq => by go_simp) ?_
  refine Fq.al 8 70 #[.int .i64 0, .int .i64 0, .int .i64 0, .int .i64 0, .int .i64 0, .int .i64 0] rfl (by simp) (fun wq => by go_simp) ?_
  refine Fq.st 9 #[.int .i64 (T i), .int .i64 (X i), .int .i64 (Y i), .int .i64 (H i), .int .i64 (R i), .int .i64 (B i)] 7 70 #[.int .i64 0, .int .i64 0, .int .i64 0, .int .i64 0, .int .i64 0, .int .i64 0] rfl rfl (fun wq bq hq => ⟨((((((wq.setCell ⟨bq, 0, none⟩ (.int .i64 (T i))).setCell ⟨bq, 1, none⟩ (.int .i64 (X i))).setCell ⟨bq, 2, none⟩ (.int .i64 (Y i))).setCell ⟨bq, 3, none⟩ (.int .i64 (H i))).setCell ⟨bq, 4, none⟩ (.int .i64 (R i))).setCell ⟨bq, 5, none⟩ (.int .i64 (B i))), ?_, blk_set (blk_set (blk_set (blk_set (blk_set (blk_set (hq) 0 (.int .i64 (T i))) 1 (.int .i64 (X i))) 2 (.int .i64 (Y i))) 3 (.int .i64 (H i))) 4 (.int .i64 (R i))) 5 (.int .i64 (B i)), only_set (only_set (only_set (only_set (only_set (only_set (only_refl _ _) 0 (.int .i64 (T i))) 1 (.int .i64 (X i))) 2 (.int .i64 (Y i))) 3 (.int .i64 (H i))) 4 (.int .i64 (R i))) 5 (.int .i64 (B i))⟩) ?_
  · (have c0 : wq.cell? ⟨bq, 0, none⟩ = some (.int .i64 0) := blk_cell hq 0; have f0 := blk_free hq 0; have c1 : wq.cell? ⟨bq, 1, none⟩ = some (.int .i64 0) := blk_cell hq 1; have f1 := blk_free hq 1; have c2 : wq.cell? ⟨bq, 2, none⟩ = some (.int .i64 0) := blk_cell hq 2; have f2 := blk_free hq 2; have c3 : wq.cell? ⟨bq, 3, none⟩ = some (.int .i64 0) := blk_cell hq 3; have f3 := blk_free hq 3; have c4 : wq.cell? ⟨bq, 4, none⟩ = some (.int .i64 0) := blk_cell hq 4; have f4 := blk_free hq 4; have c5 : wq.cell? ⟨bq, 5, none⟩ = some (.int .i64 0) := blk_cell hq 5; have f5 := blk_free hq 5; simp only [Act.put, List.setIfInBounds_toArray, List.set_cons_zero, List.set_cons_succ]; clear hq; go_simp)
  refine Fq.st 10 #[.int .i64 (T (i + 1)), .int .i64 (X (i + 1)), .int .i64 (Y (i + 1)), .int .i64 (H (i + 1)), .int .i64 (R (i + 1)), .int .i64 (B (i + 1))] 8 70 #[.int .i64 0, .int .i64 0, .int .i64 0, .int .i64 0, .int .i64 0, .int .i64 0] rfl rfl (fun wq bq hq => ⟨((((((wq.setCell ⟨bq, 0, none⟩ (.int .i64 (T (i + 1)))).setCell ⟨bq, 1, none⟩ (.int .i64 (X (i + 1)))).setCell ⟨bq, 2, none⟩ (.int .i64 (Y (i + 1)))).setCell ⟨bq, 3, none⟩ (.int .i64 (H (i + 1)))).setCell ⟨bq, 4, none⟩ (.int .i64 (R (i + 1)))).setCell ⟨bq, 5, none⟩ (.int .i64 (B (i + 1)))), ?_, blk_set (blk_set (blk_set (blk_set (blk_set (blk_set (hq) 0 (.int .i64 (T (i + 1)))) 1 (.int .i64 (X (i + 1)))) 2 (.int .i64 (Y (i + 1)))) 3 (.int .i64 (H (i + 1)))) 4 (.int .i64 (R (i + 1)))) 5 (.int .i64 (B (i + 1))), only_set (only_set (only_set (only_set (only_set (only_set (only_refl _ _) 0 (.int .i64 (T (i + 1)))) 1 (.int .i64 (X (i + 1)))) 2 (.int .i64 (Y (i + 1)))) 3 (.int .i64 (H (i + 1)))) 4 (.int .i64 (R (i + 1)))) 5 (.int .i64 (B (i + 1)))⟩) ?_
  · (have c0 : wq.cell? ⟨bq, 0, none⟩ = some (.int .i64 0) := blk_cell hq 0; have f0 := blk_free hq 0; have c1 : wq.cell? ⟨bq, 1, none⟩ = some (.int .i64 0) := blk_cell hq 1; have f1 := blk_free hq 1; have c2 : wq.cell? ⟨bq, 2, none⟩ = some (.int .i64 0) := blk_cell hq 2; have f2 := blk_free hq 2; have c3 : wq.cell? ⟨bq, 3, none⟩ = some (.int .i64 0) := blk_cell hq 3; have f3 := blk_free hq 3; have c4 : wq.cell? ⟨bq, 4, none⟩ = some (.int .i64 0) := blk_cell hq 4; have f4 := blk_free hq 4; have c5 : wq.cell? ⟨bq, 5, none⟩ = some (.int .i64 0) := blk_cell hq 5; have f5 := blk_free hq 5; simp only [Act.put, List.setIfInBounds_toArray, List.set_cons_zero, List.set_cons_succ]; clear hq; go_simp)
  refine Fq.nil ⟨by kernel_rfl, fun β w2 M => ?_⟩
  simp only [List.reverse_cons, List.reverse_nil, List.nil_append, List.cons_append, putAl, Act.put, List.setIfInBounds_toArray, List.set_cons_zero, List.set_cons_succ, Nat.reduceAdd]
  have z9 := blk_b6 (M.block 11 9 _ _ _ _ rfl rfl)
  have l9 := M.fresh 9 _ _ _ rfl
  have z10 := blk_b6 (M.block 12 10 _ _ _ _ rfl rfl)
  have l10 := M.fresh 10 _ _ _ rfl
  have m9_10 := made_ne M 9 10 rfl rfl (by decide)
  have hbw2 := M.below
  clear M
  generalize β 9 = p9 at *
  generalize β 10 = p10 at *
  have Z9 := Lib.hid z9; have Z10 := Lib.hid z10; clear z9 z10
  go_wp2_with fail
  refine d_region (by kernel_rfl) (by kernel_rfl) ?_
  repeat
    first
      | (refine d_plain (by with_reducible rfl) ?_; apply Exists.intro; refine ⟨fun wq hc hq => ?_, ?_⟩)
      | (refine d_on (by with_reducible rfl) (by rfl) (by with_reducible rfl) ?_; apply Exists.intro; refine ⟨fun wq hc hq => ?_, ?_⟩)
      | (refine d_off (by with_reducible rfl) (by rfl) (by rfl) ?_)
      | (refine d_void (by with_reducible rfl) (by rfl) ?_)
    try any_goals
      (have q0 := d6_keep (cls hq) Z9.out; have q1 := d6_keep (cls hq) Z10.out; clear hc
       go_simp
       first
         | rfl)
    simp only [Act.put, List.setIfInBounds_toArray, List.set_cons_zero, List.set_cons_succ]
  refine d_nil ?_
  intro w3 hb3
  have hz := z6_keep hb3 (z6_keep hbw2 HZ1.out); have hw := b_next (b_next HW1.out hbw2) hb3
  have k1 := d6_keep hb3 Z9.out; have k2 := d6_keep hb3 Z10.out
  clear hb3 hbw2
  go_wp2_with fail
  (with_reducible refine (TW.out _).mono ?_); rintro e w4 ⟨rfl, h⟩
  replace hz := z6_keep h hz; replace k1 := d6_keep h k1; replace k2 := d6_keep h k2; replace hw := b_next hw h
  have n1 := new_ne hz.1.1.1; have n2 := new_ne k1.1.1; have n3 := new_ne k2.1.1
  have hx := b_alloc (Below.refl w4.heap.size w4) (.cells #[.int .i64 dx, .int .i64 dy] 43)
  have X1 := Lib.hid hz; have X2 := Lib.hid hw
  clear h hx hw
  go_wp2_with fail
  (with_reducible refine (D1.out _).mono ?_); rintro e w5 ⟨rfl, h⟩
  subst h
  go_wp2_with fail
  (with_reducible refine (D2.out _).mono ?_); rintro e w6 ⟨rfl, h⟩
  subst h
  go_wp2_with fail
  (with_reducible refine (D3.out _).mono ?_); rintro e w7 ⟨rfl, h⟩
  subst h
  go_wp2_with fail
  have c := d6_set t dx dy (H i + q1) (R i + q2) (B i + q3) X1.out.1
  replace c := d6_keep (b_alloc (Below.refl _ _) (.cells #[.int .i64 dx, .int .i64 dy] 43)) c
  refine bodyPost_ret (v := .agg #[.int .i64 t, .int .i64 dx, .int .i64 dy, .int .i64 (H i + q1), .int .i64 (R i + q2), .int .i64 (B i + q3)]) (by simp [results, Try.results84, go_sem, c.1.1, c.1.2.1, c.1.2.2, c.2.1, c.2.2.1, c.2.2.2]) rfl ⟨rfl, b_alloc (b_set6' X2.out (Nat.le_refl _) _ _ _ _ _ _) _⟩
end Tube
end Go.Proofs.Yteaccanhahmclaa
