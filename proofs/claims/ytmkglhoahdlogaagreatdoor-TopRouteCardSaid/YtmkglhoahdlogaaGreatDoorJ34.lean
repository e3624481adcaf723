/- Joined texts: TubeA, TubeT, TubeH, TubeO, TubeQ. -/
import Derived.Test.YtmkglhoahdlogaaGreatDoorJ33
import Derived.Test.YtmkglhoahdlogaaGreatDoorJ08
import Derived.Test.YtmkglhoahdlogaaGreatDoorJ01
import Derived.Test.YtmkglhoahdlogaaGreatDoorJ05
namespace Go.Proofs.YtmkglhoahdlogaaGreatDoor
open Go.RowKit
namespace Kit
theorem blk_b6 {w : World} {b : Nat} {ty : TypeId} {t x y h r d : Int} (hh : w.heap[b]? = some (.cells #[.int .i64 t, .int .i64 x, .int .i64 y, .int .i64 h, .int .i64 r, .int .i64 d] ty (0, 0))) : Tube.D6 w b t x y h r d :=
  ⟨⟨blk_cell hh 0, blk_cell hh 1, blk_cell hh 2⟩, ⟨blk_cell hh 3, blk_cell hh 4, blk_cell hh 5⟩⟩
end Kit
namespace Tube
open Kit Plane
/-- Six cells that may be written. -/
abbrev F6 (w : World) (b : Nat) : Prop := (w.frozen? ⟨b, 0, none⟩ = false ∧ w.frozen? ⟨b, 1, none⟩ = false ∧ w.frozen? ⟨b, 2, none⟩ = false) ∧ (w.frozen? ⟨b, 3, none⟩ = false ∧ w.frozen? ⟨b, 4, none⟩ = false ∧ w.frozen? ⟨b, 5, none⟩ = false)
abbrev Z6 (w : World) (b : Nat) (t x y h r d : Int) : Prop := D6 w b t x y h r d ∧ F6 w b
theorem z6_new (w : World) (ty : TypeId) (t x y h r d : Int) : Z6 (w.alloc (.cells #[.int .i64 t, .int .i64 x, .int .i64 y, .int .i64 h, .int .i64 r, .int .i64 d] ty)) w.heap.size t x y h r d := ⟨d6_new w ty t x y h r d, ⟨by simp, by simp, by simp⟩, ⟨by simp, by simp, by simp⟩⟩
theorem z6_keep {W w1 : World} (hb : Below W.heap.size W w1) {b : Nat} {t x y z r d : Int} (h : Z6 W b t x y z r d) : Z6 w1 b t x y z r d :=
  ⟨d6_keep hb h.1, ⟨keepF hb h.1.1.1 h.2.1.1, keepF hb h.1.1.2.1 h.2.1.2.1, keepF hb h.1.1.2.2 h.2.1.2.2⟩, ⟨keepF hb h.1.2.1 h.2.2.1, keepF hb h.1.2.2.1 h.2.2.2.1, keepF hb h.1.2.2.2 h.2.2.2.2⟩⟩
theorem d6_set {W : World} {b : Nat} {t x y h r d : Int} (t' x' y' h' r' d' : Int) (hc : D6 W b t x y h r d) :
    D6 ((((((W.setCell ⟨b, 0, none⟩ (.int .i64 t')).setCell ⟨b, 1, none⟩ (.int .i64 x')).setCell ⟨b, 2, none⟩ (.int .i64 y')).setCell ⟨b, 3, none⟩ (.int .i64 h')).setCell ⟨b, 4, none⟩ (.int .i64 r')).setCell ⟨b, 5, none⟩ (.int .i64 d')) b t' x' y' h' r' d' := by
  obtain ⟨⟨c0, c1, c2⟩, c3, c4, c5⟩ := hc
  refine ⟨⟨?_, ?_, ?_⟩, ?_, ?_, ?_⟩
  · exact cfar _ (by simp) (cfar _ (by simp) (cfar _ (by simp) (cfar _ (by simp) (cfar _ (by simp) (cset _ c0)))))
  · exact cfar _ (by simp) (cfar _ (by simp) (cfar _ (by simp) (cfar _ (by simp) (cset _ (cfar _ (by simp) c1)))))
  · exact cfar _ (by simp) (cfar _ (by simp) (cfar _ (by simp) (cset _ (cfar _ (by simp) (cfar _ (by simp) c2)))))
  · exact cfar _ (by simp) (cfar _ (by simp) (cset _ (cfar _ (by simp) (cfar _ (by simp) (cfar _ (by simp) c3)))))
  · exact cfar _ (by simp) (cset _ (cfar _ (by simp) (cfar _ (by simp) (cfar _ (by simp) (cfar _ (by simp) c4)))))
  · exact cset _ (cfar _ (by simp) (cfar _ (by simp) (cfar _ (by simp) (cfar _ (by simp) (cfar _ (by simp) c5)))))
theorem b_set6' {w W : World} {b : Nat} (h : Below w.heap.size w W) (hb : w.heap.size ≤ b) (u0 u1 u2 u3 u4 u5 : Value) : Below w.heap.size w ((((((W.setCell ⟨b, 0, none⟩ u0).setCell ⟨b, 1, none⟩ u1).setCell ⟨b, 2, none⟩ u2).setCell ⟨b, 3, none⟩ u3).setCell ⟨b, 4, none⟩ u4).setCell ⟨b, 5, none⟩ u5) :=
  b_set (b_set (b_set (b_set (b_set (b_set h hb _) hb _) hb _) hb _) hb _) hb _
set_option maxHeartbeats 1000000 in
theorem ends_w (n cap b off : Nat) (T X Y H R B : Nat → Int) (w : World) (h0 : 0 < n) (hn : n ≤ 64) (_hc : n ≤ cap) (_hm : cap ≤ 9223372036854775807) (HV : Hid (∀ k, k < n → S6 w b (off + k * 6) (T k) (X k) (Y k) (H k) (R k) (B k))) :
    Calls Tryz.prog 33 #[.slice (some ⟨b, off, none⟩) n cap] w fun e w' => e = .returned (.tuple #[.int .i64 (T 0), .int .i64 (T (n - 1))]) ∧ Below w.heap.size w w' := by
  go_enter Tryz.func33, Tryz.ntmps33
  have e0 := HV.out 0 h0
  rw [Nat.zero_mul, Nat.add_zero] at e0
  have E0 := Lib.hid e0; have E1 := Lib.hid (HV.out (n - 1) (by omega)); clear e0
  have u0 : (0 : Int) < (n : Int) := by omega
  have u1 : IntKind.i64.wrap ((n : Int) - 1) = ((n - 1 : Nat) : Int) := by rw [IntWalk.i64_in _ (by omega)]; omega
  have u2 : ((n - 1 : Nat) : Int) < (n : Int) := by omega
  go_wp2_with fail
  refine d_region (by kernel_rfl) (by kernel_rfl) ?_
  repeat
    first
      | (refine d_plain (by with_reducible rfl) ?_; apply Exists.intro; refine ⟨fun wq hc hq => ?_, ?_⟩)
      | (refine d_on (by with_reducible rfl) (by rfl) (by with_reducible rfl) ?_; apply Exists.intro; refine ⟨fun wq hc hq => ?_, ?_⟩)
      | (refine d_off (by with_reducible rfl) (by rfl) (by rfl) ?_)
      | (refine d_void (by with_reducible rfl) (by rfl) ?_)
    try any_goals
      (have q0 := s6_keep (cls hq) E0.out; have q1 := s6_keep (cls hq) E1.out; clear hc
       go_simp
       first
         | rfl)
    simp only [Act.put, List.setIfInBounds_toArray, List.set_cons_zero, List.set_cons_succ]
  refine d_nil ?_
  intro w1 hb1
  go_wp2_with fail
  go_ret2
  exact ⟨rfl, hb1⟩
abbrev SrC (v : Value) (t : Int) (i : Nat) (f : Bool) (w : World) : Prop := ∀ w1 : World, Below w.heap.size w w1 → Calls Tryz.prog 64 #[v, .int .i64 t, .func (.func 65) #[] #[]] w1 fun e w' => e = .returned (.tuple #[.int .i64 i, .bool f]) ∧ Below w1.heap.size w1 w'
set_option maxHeartbeats 1000000 in
theorem at_exact (n cap b off : Nat) (T X Y H R B : Nat → Int) (t : Int) (i : Nat) (w : World) (hi : i < n) (_hn : n ≤ 64) (_hc : n ≤ cap) (_hm : cap ≤ 9223372036854775807) (HV : Hid (∀ k, k < n → S6 w b (off + k * 6) (T k) (X k) (Y k) (H k) (R k) (B k))) (S : Hid (SrC (.slice (some ⟨b, off, none⟩) n cap) t i true w)) :
    Calls Tryz.prog 34 #[.slice (some ⟨b, off, none⟩) n cap, .int .i64 t] w fun e w' => e = .returned (.agg #[.int .i64 (T i), .int .i64 (X i), .int .i64 (Y i), .int .i64 (H i), .int .i64 (R i), .int .i64 (B i)]) ∧ Below w.heap.size w w' := by
  go_enter Tryz.func34, Tryz.ntmps34
  have hz := z6_new w 57 0 0 0 0 0 0
  have hw := b_alloc (Below.refl w.heap.size w) (.cells #[.int .i64 0, .int .i64 0, .int .i64 0, .int .i64 0, .int .i64 0, .int .i64 0] 57)
  have HZ := Lib.hid (And.intro hz hw); clear hz hw
  go_wp2_with fail
  refine (S.out _ HZ.out.2).mono ?_; rintro e w1 ⟨rfl, h⟩
  have hz := z6_keep h HZ.out.1; have hw := b_next HZ.out.2 h; clear h
  have e0 := s6_keep hw (HV.out i hi)
  have hin : (i : Int) < (n : Int) := by omega
  go_wp2_with fail
  have c := d6_set (T i) (X i) (Y i) (H i) (R i) (B i) hz.1
  refine bodyPost_ret (v := .agg #[.int .i64 (T i), .int .i64 (X i), .int .i64 (Y i), .int .i64 (H i), .int .i64 (R i), .int .i64 (B i)]) (by simp [results, Tryz.results34, go_sem, c.1.1, c.1.2.1, c.1.2.2, c.2.1, c.2.2.1, c.2.2.2]) rfl ⟨rfl, b_set6' hw (Nat.le_refl _) _ _ _ _ _ _⟩
abbrev DvC (f : FuncId) (a d q : Int) : Prop := ∀ w : World, Calls Tryz.prog f #[.int .i64 a, .int .i64 d] w fun e w' => e = .returned (.tuple #[.int .i64 q, .int .i64 0]) ∧ w = w'
set_option maxRecDepth 100000 in
set_option maxHeartbeats 1000000 in
theorem at_between (n cap b off : Nat) (T X Y H R B : Nat → Int) (t : Int) (i : Nat) (w : World) (hi : i + 1 < n) (_hn : n ≤ 64) (hc : n ≤ cap) (hm : cap ≤ 9223372036854775807) (HV : Hid (∀ k, k < n → S6 w b (off + k * 6) (T k) (X k) (Y k) (H k) (R k) (B k))) (S : Hid (SrC (.slice (some ⟨b, off, none⟩) n cap) t (i + 1) false w)) (dx dy q1 q2 q3 : Int)
    (TW : Hid (∀ w : World, Calls Tryz.prog 60 #[.agg #[.int .i64 (X i), .int .i64 (Y i)], .agg #[.int .i64 (X (i + 1)), .int .i64 (Y (i + 1))], .int .i64 (t - T i), .int .i64 (T (i + 1) - T i)] w fun e w' => e = .returned (.tuple #[.agg #[.int .i64 dx, .int .i64 dy], .int .i64 0]) ∧ Below w.heap.size w w'))
    (D1 : Hid (DvC 66 ((H (i + 1) - H i) * (t - T i)) (T (i + 1) - T i) q1)) (D2 : Hid (DvC 57 ((R (i + 1) - R i) * (t - T i)) (T (i + 1) - T i) q2)) (D3 : Hid (DvC 57 ((B (i + 1) - B i) * (t - T i)) (T (i + 1) - T i) q3))
    (b1 : 0 ≤ T i ∧ T i ≤ t ∧ t ≤ T (i + 1) ∧ T (i + 1) ≤ 200000) (b2 : 0 ≤ H i ∧ H i ≤ 60000 ∧ 0 ≤ H (i + 1) ∧ H (i + 1) ≤ 60000 ∧ -60000 ≤ q1 ∧ q1 ≤ 60000) (b3 : 0 ≤ R i ∧ R i ≤ 1000000 ∧ 0 ≤ R (i + 1) ∧ R (i + 1) ≤ 1000000 ∧ -1000000 ≤ q2 ∧ q2 ≤ 1000000) (b4 : 0 ≤ B i ∧ B i ≤ 60000 ∧ 0 ≤ B (i + 1) ∧ B (i + 1) ≤ 60000 ∧ -60000 ≤ q3 ∧ q3 ≤ 60000)
    (m1 : -12000000000 ≤ (H (i + 1) - H i) * (t - T i) ∧ (H (i + 1) - H i) * (t - T i) ≤ 12000000000) (m2 : -200000000000 ≤ (R (i + 1) - R i) * (t - T i) ∧ (R (i + 1) - R i) * (t - T i) ≤ 200000000000) (m3 : -12000000000 ≤ (B (i + 1) - B i) * (t - T i) ∧ (B (i + 1) - B i) * (t - T i) ≤ 12000000000) :
    Calls Tryz.prog 34 #[.slice (some ⟨b, off, none⟩) n cap, .int .i64 t] w fun e w' => e = .returned (.agg #[.int .i64 t, .int .i64 dx, .int .i64 dy, .int .i64 (H i + q1), .int .i64 (R i + q2), .int .i64 (B i + q3)]) ∧ Below w.heap.size w w' := by
  go_enter Tryz.func34, Tryz.ntmps34
  have hz := z6_new w 57 0 0 0 0 0 0
  have hw := b_alloc (Below.refl w.heap.size w) (.cells #[.int .i64 0, .int .i64 0, .int .i64 0, .int .i64 0, .int .i64 0, .int .i64 0] 57)
  have HZ := Lib.hid (And.intro hz hw); clear hz hw
  go_wp2_with fail
  refine (S.out _ HZ.out.2).mono ?_; rintro e w1 ⟨rfl, h⟩
  have hz := z6_keep h HZ.out.1; have hw := b_next HZ.out.2 h; clear h
  have E0 := Lib.hid (s6_keep hw (HV.out i (by omega))); have E1 := Lib.hid (s6_keep hw (HV.out (i + 1) hi))
  have hin : (i : Int) < (n : Int) := by omega
  have hin2 : (i : Int) + 1 < (n : Int) := by omega
  have u1 : IntKind.i64.wrap (i : Int) = (i : Int) := IntWalk.i64_in _ (by omega)
  have v1 : IntKind.i64.wrap (t - T i) = t - T i := IntWalk.i64_in _ (by omega)
  have v2 : IntKind.i64.wrap (T (i + 1) - T i) = T (i + 1) - T i := IntWalk.i64_in _ (by omega)
  have HZ1 := Lib.hid hz; have HW1 := Lib.hid hw; clear hz hw
  go_wp2_with fail
  refine fresh_region (by kernel_rfl) (by kernel_rfl) ?_
  apply Fq.r
  · intro wq hc hq
    (have q0 := s6_keep (cls hq) E0.out; have q1 := s6_keep (cls hq) E1.out; clear hc; go_simp; first | exact q2_value | exact q2_skip)
  simp only [Act.put, List.setIfInBounds_toArray, List.set_cons_zero, List.set_cons_succ]
  apply Fq.r
  · intro wq hc hq
    (have q0 := s6_keep (cls hq) E0.out; have q1 := s6_keep (cls hq) E1.out; clear hc; go_simp; first | exact q2_value | exact q2_skip)
  simp only [Act.put, List.setIfInBounds_toArray, List.set_cons_zero, List.set_cons_succ]
  apply Fq.r
  · intro wq hc hq
    (have q0 := s6_keep (cls hq) E0.out; have q1 := s6_keep (cls hq) E1.out; clear hc; go_simp; first | exact q2_value | exact q2_skip)
  simp only [Act.put, List.setIfInBounds_toArray, List.set_cons_zero, List.set_cons_succ]
  apply Fq.r
  · intro wq hc hq
    (have q0 := s6_keep (cls hq) E0.out; have q1 := s6_keep (cls hq) E1.out; clear hc; go_simp; first | exact q2_value | exact q2_skip)
  simp only [Act.put, List.setIfInBounds_toArray, List.set_cons_zero, List.set_cons_succ]
  apply Fq.r
  · intro wq hc hq
    (have q0 := s6_keep (cls hq) E0.out; have q1 := s6_keep (cls hq) E1.out; clear hc; go_simp; first | exact q2_value | exact q2_skip)
  simp only [Act.put, List.setIfInBounds_toArray, List.set_cons_zero, List.set_cons_succ]
  apply Fq.r
  · intro wq hc hq
    (have q0 := s6_keep (cls hq) E0.out; have q1 := s6_keep (cls hq) E1.out; clear hc; go_simp; first | exact q2_value | exact q2_skip)
  simp only [Act.put, List.setIfInBounds_toArray, List.set_cons_zero, List.set_cons_succ]
  apply Fq.r
  · intro wq hc hq
    (have q0 := s6_keep (cls hq) E0.out; have q1 := s6_keep (cls hq) E1.out; clear hc; go_simp; first | exact q2_value | exact q2_skip)
  simp only [Act.put, List.setIfInBounds_toArray, List.set_cons_zero, List.set_cons_succ]
  apply Fq.r
  · intro wq hc hq
    (have q0 := s6_keep (cls hq) E0.out; have q1 := s6_keep (cls hq) E1.out; clear hc; go_simp; first | exact q2_value | exact q2_skip)
  simp only [Act.put, List.setIfInBounds_toArray, List.set_cons_zero, List.set_cons_succ]
  apply Fq.r
  · intro wq hc hq
    (have q0 := s6_keep (cls hq) E0.out; have q1 := s6_keep (cls hq) E1.out; clear hc; go_simp; first | exact q2_value | exact q2_skip)
  simp only [Act.put, List.setIfInBounds_toArray, List.set_cons_zero, List.set_cons_succ]
  refine Fq.al 7 57 #[.int .i64 0, .int .i64 0, .int .i64 0, .int .i64 0, .int .i64 0, .int .i64 0] rfl (by simp) (fun wq => by go_simp) ?_
  refine Fq.al 8 57 #[.int .i64 0, .int .i64 0, .int .i64 0, .int .i64 0, .int .i64 0, .int .i64 0] rfl (by simp) (fun wq => by go_simp) ?_
  refine Fq.st 9 #[.int .i64 (T i), .int .i64 (X i), .int .i64 (Y i), .int .i64 (H i), .int .i64 (R i), .int .i64 (B i)] 7 57 #[.int .i64 0, .int .i64 0, .int .i64 0, .int .i64 0, .int .i64 0, .int .i64 0] rfl rfl (fun wq bq hq => ⟨((((((wq.setCell ⟨bq, 0, none⟩ (.int .i64 (T i))).setCell ⟨bq, 1, none⟩ (.int .i64 (X i))).setCell ⟨bq, 2, none⟩ (.int .i64 (Y i))).setCell ⟨bq, 3, none⟩ (.int .i64 (H i))).setCell ⟨bq, 4, none⟩ (.int .i64 (R i))).setCell ⟨bq, 5, none⟩ (.int .i64 (B i))), ?_, blk_set (blk_set (blk_set (blk_set (blk_set (blk_set (hq) 0 (.int .i64 (T i))) 1 (.int .i64 (X i))) 2 (.int .i64 (Y i))) 3 (.int .i64 (H i))) 4 (.int .i64 (R i))) 5 (.int .i64 (B i)), only_set (only_set (only_set (only_set (only_set (only_set (only_refl _ _) 0 (.int .i64 (T i))) 1 (.int .i64 (X i))) 2 (.int .i64 (Y i))) 3 (.int .i64 (H i))) 4 (.int .i64 (R i))) 5 (.int .i64 (B i))⟩) ?_
  · (have c0 : wq.cell? ⟨bq, 0, none⟩ = some (.int .i64 0) := blk_cell hq 0; have f0 := blk_free hq 0; have c1 : wq.cell? ⟨bq, 1, none⟩ = some (.int .i64 0) := blk_cell hq 1; have f1 := blk_free hq 1; have c2 : wq.cell? ⟨bq, 2, none⟩ = some (.int .i64 0) := blk_cell hq 2; have f2 := blk_free hq 2; have c3 : wq.cell? ⟨bq, 3, none⟩ = some (.int .i64 0) := blk_cell hq 3; have f3 := blk_free hq 3; have c4 : wq.cell? ⟨bq, 4, none⟩ = some (.int .i64 0) := blk_cell hq 4; have f4 := blk_free hq 4; have c5 : wq.cell? ⟨bq, 5, none⟩ = some (.int .i64 0) := blk_cell hq 5; have f5 := blk_free hq 5; simp only [Act.put, List.setIfInBounds_toArray, List.set_cons_zero, List.set_cons_succ]; clear hq; go_simp)
  refine Fq.st 10 #[.int .i64 (T (i + 1)), .int .i64 (X (i + 1)), .int .i64 (Y (i + 1)), .int .i64 (H (i + 1)), .int .i64 (R (i + 1)), .int .i64 (B (i + 1))] 8 57 #[.int .i64 0, .int .i64 0, .int .i64 0, .int .i64 0, .int .i64 0, .int .i64 0] rfl rfl (fun wq bq hq => ⟨((((((wq.setCell ⟨bq, 0, none⟩ (.int .i64 (T (i + 1)))).setCell ⟨bq, 1, none⟩ (.int .i64 (X (i + 1)))).setCell ⟨bq, 2, none⟩ (.int .i64 (Y (i + 1)))).setCell ⟨bq, 3, none⟩ (.int .i64 (H (i + 1)))).setCell ⟨bq, 4, none⟩ (.int .i64 (R (i + 1)))).setCell ⟨bq, 5, none⟩ (.int .i64 (B (i + 1)))), ?_, blk_set (blk_set (blk_set (blk_set (blk_set (blk_set (hq) 0 (.int .i64 (T (i + 1)))) 1 (.int .i64 (X (i + 1)))) 2 (.int .i64 (Y (i + 1)))) 3 (.int .i64 (H (i + 1)))) 4 (.int .i64 (R (i + 1)))) 5 (.int .i64 (B (i + 1))), only_set (only_set (only_set (only_set (only_set (only_set (only_refl _ _) 0 (.int .i64 (T (i + 1)))) 1 (.int .i64 (X (i + 1)))) 2 (.int .i64 (Y (i + 1)))) 3 (.int .i64 (H (i + 1)))) 4 (.int .i64 (R (i + 1)))) 5 (.int .i64 (B (i + 1)))⟩) ?_
  · (have c0 : wq.cell? ⟨bq, 0, none⟩ = some (.int .i64 0) := blk_cell hq 0; have f0 := blk_free hq 0; have c1 : wq.cell? ⟨bq, 1, none⟩ = some (.int .i64 0) := blk_cell hq 1; have f1 := blk_free hq 1; have c2 : wq.cell? ⟨bq, 2, none⟩ = some (.int .i64 0) := blk_cell hq 2; have f2 := blk_free hq 2; have c3 : wq.cell? ⟨bq, 3, none⟩ = some (.int .i64 0) := blk_cell hq 3; have f3 := blk_free hq 3; have c4 : wq.cell? ⟨bq, 4, none⟩ = some (.int .i64 0) := blk_cell hq 4; have f4 := blk_free hq 4; have c5 : wq.cell? ⟨bq, 5, none⟩ = some (.int .i64 0) := blk_cell hq 5; have f5 := blk_free hq 5; simp only [Act.put, List.setIfInBounds_toArray, List.set_cons_zero, List.set_cons_succ]; clear hq; go_simp)
  refine Fq.nil ⟨by kernel_rfl, fun β w2 M => ?_⟩
  simp only [List.reverse_cons, List.reverse_nil, List.nil_append, List.cons_append, putAl, Act.put, List.setIfInBounds_toArray, List.set_cons_zero, List.set_cons_succ, Nat.reduceAdd]
  have z9 := blk_b6 (M.block 11 9 _ _ _ _ rfl rfl)
  have l9 := M.fresh 9 _ _ _ rfl
  have z10 := blk_b6 (M.block 12 10 _ _ _ _ rfl rfl)
  have l10 := M.fresh 10 _ _ _ rfl
  have m9_10 := made_ne M 9 10 rfl rfl (by decide)
  have hbw2 := M.below
  clear M
  generalize β 9 = p9 at *
  generalize β 10 = p10 at *
  have Z9 := Lib.hid z9; have Z10 := Lib.hid z10; clear z9 z10
  go_wp2_with fail
  refine d_region (by kernel_rfl) (by kernel_rfl) ?_
  repeat
    first
      | (refine d_plain (by with_reducible rfl) ?_; apply Exists.intro; refine ⟨fun wq hc hq => ?_, ?_⟩)
      | (refine d_on (by with_reducible rfl) (by rfl) (by with_reducible rfl) ?_; apply Exists.intro; refine ⟨fun wq hc hq => ?_, ?_⟩)
      | (refine d_off (by with_reducible rfl) (by rfl) (by rfl) ?_)
      | (refine d_void (by with_reducible rfl) (by rfl) ?_)
    try any_goals
      (have q0 := d6_keep (cls hq) Z9.out; have q1 := d6_keep (cls hq) Z10.out; clear hc
       go_simp
       first
         | rfl)
    simp only [Act.put, List.setIfInBounds_toArray, List.set_cons_zero, List.set_cons_succ]
  refine d_nil ?_
  intro w3 hb3
  have hz := z6_keep hb3 (z6_keep hbw2 HZ1.out); have hw := b_next (b_next HW1.out hbw2) hb3
  have k1 := d6_keep hb3 Z9.out; have k2 := d6_keep hb3 Z10.out
  clear hb3 hbw2
  go_wp2_with fail
  (with_reducible refine (TW.out _).mono ?_); rintro e w4 ⟨rfl, h⟩
  replace hz := z6_keep h hz; replace k1 := d6_keep h k1; replace k2 := d6_keep h k2; replace hw := b_next hw h
  have n1 := new_ne hz.1.1.1; have n2 := new_ne k1.1.1; have n3 := new_ne k2.1.1
  have hx := b_alloc (Below.refl w4.heap.size w4) (.cells #[.int .i64 dx, .int .i64 dy] 36)
  have X1 := Lib.hid hz; have X2 := Lib.hid hw
  clear h hx hw
  go_wp2_with fail
  (with_reducible refine (D1.out _).mono ?_); rintro e w5 ⟨rfl, h⟩
  subst h
  go_wp2_with fail
  (with_reducible refine (D2.out _).mono ?_); rintro e w6 ⟨rfl, h⟩
  subst h
  go_wp2_with fail
  (with_reducible refine (D3.out _).mono ?_); rintro e w7 ⟨rfl, h⟩
  subst h
  go_wp2_with fail
  have c := d6_set t dx dy (H i + q1) (R i + q2) (B i + q3) X1.out.1
  replace c := d6_keep (b_alloc (Below.refl _ _) (.cells #[.int .i64 dx, .int .i64 dy] 36)) c
  refine bodyPost_ret (v := .agg #[.int .i64 t, .int .i64 dx, .int .i64 dy, .int .i64 (H i + q1), .int .i64 (R i + q2), .int .i64 (B i + q3)]) (by simp [results, Tryz.results34, go_sem, c.1.1, c.1.2.1, c.1.2.2, c.2.1, c.2.2.1, c.2.2.2]) rfl ⟨rfl, b_alloc (b_set6' X2.out (Nat.le_refl _) _ _ _ _ _ _) _⟩
end Tube
end Go.Proofs.YtmkglhoahdlogaaGreatDoor
namespace Go.Proofs.YtmkglhoahdlogaaGreatDoor
open Go.RowKit
namespace Tube
open Kit Plane
set_option maxHeartbeats 1000000 in
theorem At_bad (v : Value) (t : Int) (E : Int) (w : World) (C : Hid (CkC v E w)) (_hE1 : (E == 0) = false) (hE2 : (E != 0) = true) :
    Calls Tryz.prog 12 #[v, .int .i64 t] w fun e w' => e = .returned (.tuple #[.agg #[.int .i64 0, .int .i64 0, .int .i64 0, .int .i64 0, .int .i64 0, .int .i64 0], .int .i64 E]) ∧ Below w.heap.size w w' := by
  go_enter Tryz.func12, Tryz.ntmps12
  have HZ := Lib.hid (z6_new w 57 0 0 0 0 0 0)
  have HW := Lib.hid (b_alloc (Below.refl w.heap.size w) (.cells #[.int .i64 0, .int .i64 0, .int .i64 0, .int .i64 0, .int .i64 0, .int .i64 0] 57))
  go_wp2_with fail
  (with_reducible refine (C.out _ HW.out).mono ?_); rintro e w1 ⟨rfl, h⟩
  have hz := z6_keep h HZ.out; have hw := b_next HW.out h; clear h
  go_wp2_with fail

  have c := d6_set (0) (0) (0) (0) (0) (0) hz.1
  refine bodyPost_ret (v := .tuple #[.agg #[.int .i64 0, .int .i64 0, .int .i64 0, .int .i64 0, .int .i64 0, .int .i64 0], .int .i64 E]) (by simp [results, Tryz.results12, go_sem, c.1.1, c.1.2.1, c.1.2.2, c.2.1, c.2.2.1, c.2.2.2]) rfl ⟨rfl, b_set6' hw (Nat.le_refl _) _ _ _ _ _ _⟩
set_option maxHeartbeats 1000000 in
theorem At_time (v : Value) (t : Int) (a z : Int) (w : World) (C : Hid (CkC v 0 w)) (N : Hid (∀ w1, Below w.heap.size w w1 → Calls Tryz.prog 33 #[v] w1 fun e w' => e = .returned (.tuple #[.int .i64 a, .int .i64 z]) ∧ Below w1.heap.size w1 w')) (ht : t < a ∨ z < t) :
    Calls Tryz.prog 12 #[v, .int .i64 t] w fun e w' => e = .returned (.tuple #[.agg #[.int .i64 0, .int .i64 0, .int .i64 0, .int .i64 0, .int .i64 0, .int .i64 0], .int .i64 12]) ∧ Below w.heap.size w w' := by
  go_enter Tryz.func12, Tryz.ntmps12
  have HZ := Lib.hid (z6_new w 57 0 0 0 0 0 0)
  have HW := Lib.hid (b_alloc (Below.refl w.heap.size w) (.cells #[.int .i64 0, .int .i64 0, .int .i64 0, .int .i64 0, .int .i64 0, .int .i64 0] 57))
  go_wp2_with fail
  (with_reducible refine (C.out _ HW.out).mono ?_); rintro e w1 ⟨rfl, h⟩
  have hz := z6_keep h HZ.out; have hw := b_next HW.out h; clear h
  go_wp2_with fail
  (with_reducible refine (N.out _ hw).mono ?_); rintro e w2 ⟨rfl, h⟩
  replace hz := z6_keep h hz; replace hw := b_next hw h; clear h
  go_wp2_with fail

  all_goals first | (exfalso; omega) | skip
  all_goals
   have c := d6_set (0) (0) (0) (0) (0) (0) hz.1
   refine bodyPost_ret (v := .tuple #[.agg #[.int .i64 0, .int .i64 0, .int .i64 0, .int .i64 0, .int .i64 0, .int .i64 0], .int .i64 12]) (by simp [results, Tryz.results12, go_sem, c.1.1, c.1.2.1, c.1.2.2, c.2.1, c.2.2.1, c.2.2.2]) rfl ⟨rfl, b_set6' hw (Nat.le_refl _) _ _ _ _ _ _⟩
set_option maxHeartbeats 1000000 in
theorem At_ok (v : Value) (t : Int) (a z dx dy dh dr db : Int) (w : World) (C : Hid (CkC v 0 w)) (N : Hid (∀ w1, Below w.heap.size w w1 → Calls Tryz.prog 33 #[v] w1 fun e w' => e = .returned (.tuple #[.int .i64 a, .int .i64 z]) ∧ Below w1.heap.size w1 w')) (h1 : ¬ t < a) (h2 : ¬ z < t) (Q : Hid (∀ w1, Below w.heap.size w w1 → Calls Tryz.prog 34 #[v, .int .i64 t] w1 fun e w' => e = .returned (.agg #[.int .i64 t, .int .i64 dx, .int .i64 dy, .int .i64 dh, .int .i64 dr, .int .i64 db]) ∧ Below w1.heap.size w1 w')) :
    Calls Tryz.prog 12 #[v, .int .i64 t] w fun e w' => e = .returned (.tuple #[.agg #[.int .i64 t, .int .i64 dx, .int .i64 dy, .int .i64 dh, .int .i64 dr, .int .i64 db], .int .i64 0]) ∧ Below w.heap.size w w' := by
  go_enter Tryz.func12, Tryz.ntmps12
  have HZ := Lib.hid (z6_new w 57 0 0 0 0 0 0)
  have HW := Lib.hid (b_alloc (Below.refl w.heap.size w) (.cells #[.int .i64 0, .int .i64 0, .int .i64 0, .int .i64 0, .int .i64 0, .int .i64 0] 57))
  go_wp2_with fail
  (with_reducible refine (C.out _ HW.out).mono ?_); rintro e w1 ⟨rfl, h⟩
  have hz := z6_keep h HZ.out; have hw := b_next HW.out h; clear h
  go_wp2_with fail
  (with_reducible refine (N.out _ hw).mono ?_); rintro e w2 ⟨rfl, h⟩
  replace hz := z6_keep h hz; replace hw := b_next hw h; clear h
  go_wp2_with fail
  (with_reducible refine (Q.out _ hw).mono ?_); rintro e w3 ⟨rfl, h⟩
  replace hz := z6_keep h hz; replace hw := b_next hw h; clear h
  go_wp2_with fail

  have c := d6_set (t) (dx) (dy) (dh) (dr) (db) hz.1
  refine bodyPost_ret (v := .tuple #[.agg #[.int .i64 t, .int .i64 dx, .int .i64 dy, .int .i64 dh, .int .i64 dr, .int .i64 db], .int .i64 0]) (by simp [results, Tryz.results12, go_sem, c.1.1, c.1.2.1, c.1.2.2, c.2.1, c.2.2.1, c.2.2.2]) rfl ⟨rfl, b_set6' hw (Nat.le_refl _) _ _ _ _ _ _⟩
/-- The quotient, rounded up. -/
def up (a d : Int) : Int := -((-a) / d)
theorem du_up {a d : Int} (hd : 0 < d) : Num.du a d = up a d ∧ Num.dde a d = 0 := by
  have h0 : d ≠ 0 := by omega
  have h1 : ¬ (a = -9223372036854775808 ∧ d = -1) := by omega
  refine ⟨?_, (Num.dd_ok h0 h1).2⟩
  rw [Num.du_ok h0 h1, Num.fd_pos hd]
  unfold up
  have e1 := Int.mul_ediv_add_emod a d
  have e2 := Int.emod_nonneg a h0
  have e3 := Int.emod_lt_of_pos a hd
  have hz : a.tmod d = 0 ↔ a % d = 0 := by rw [← Int.dvd_iff_tmod_eq_zero, ← Int.dvd_iff_emod_eq_zero]
  by_cases hr : a % d = 0
  · rw [if_pos (hz.2 hr)]
    have : (-a) / d = -(a / d) := Num.ediv_unique hd (by rw [Int.mul_neg]; omega) (by rw [Int.mul_neg]; omega)
    omega
  · rw [if_neg (fun h => hr (hz.1 h))]
    have : (-a) / d = -(a / d + 1) := Num.ediv_unique hd (by rw [Int.mul_neg, Int.mul_add]; omega) (by rw [Int.mul_neg, Int.mul_add]; omega)
    omega
def tx (T X : Nat → Int) (i : Nat) (t : Int) : Int := tw (X i) (X (i + 1)) (t - T i) (T (i + 1) - T i)
def th (T H : Nat → Int) (i : Nat) (t : Int) : Int := H i + (H (i + 1) - H i) * (t - T i) / (T (i + 1) - T i)
def tu (T R : Nat → Int) (i : Nat) (t : Int) : Int := R i + up ((R (i + 1) - R i) * (t - T i)) (T (i + 1) - T i)
theorem tx_at {T X : Nat → Int} {i : Nat} : tx T X i (T i) = X i := by unfold tx; rw [Int.sub_self, tw_zero]
theorem th_at {T H : Nat → Int} {i : Nat} : th T H i (T i) = H i := by unfold th; rw [Int.sub_self, Int.mul_zero, Int.zero_ediv, Int.add_zero]
theorem tu_at {T R : Nat → Int} {i : Nat} : tu T R i (T i) = R i := by unfold tu up; rw [Int.sub_self, Int.mul_zero, Int.neg_zero, Int.zero_ediv]; omega
theorem quo_bd {d n N : Int} (hN : 0 < N) (h0 : 0 ≤ n) (h1 : n ≤ N) : (0 ≤ d * n / N ∨ d ≤ d * n / N) ∧ (d * n / N ≤ 0 ∨ d * n / N ≤ d) := by
  have e := tw_bd (a := 0) (b := d) hN h0 h1
  unfold tw at e
  rw [Int.sub_zero, Int.zero_add] at e
  exact e
theorem up_bd {d n N : Int} (hN : 0 < N) (h0 : 0 ≤ n) (h1 : n ≤ N) : (0 ≤ up (d * n) N ∨ d ≤ up (d * n) N) ∧ (up (d * n) N ≤ 0 ∨ up (d * n) N ≤ d) := by
  have e := quo_bd (d := -d) hN h0 h1
  unfold up
  rw [Int.neg_mul] at e
  omega
/-- Node i is the last one that is not later than t. -/
def tseg (T : Nat → Int) (n : Nat) (t : Int) (i : Nat) : Prop := i < n ∧ T i ≤ t ∧ (i + 1 < n → t < T (i + 1))
theorem tseg_ex {T : Nat → Int} {t : Int} : ∀ {n : Nat}, 0 < n → T 0 ≤ t → ∃ i, tseg T n t i := by
  intro n
  induction n with
  | zero => intro h; exact absurd h (by omega)
  | succ n ih =>
    intro _ h0
    rcases Nat.eq_zero_or_pos n with hn | hn
    · subst hn; exact ⟨0, by omega, h0, fun h => by omega⟩
    · by_cases hl : T n ≤ t
      · exact ⟨n, by omega, hl, fun h => by omega⟩
      · obtain ⟨i, h1, h2, h3⟩ := ih hn h0
        refine ⟨i, by omega, h2, fun h => ?_⟩
        rcases Nat.lt_or_ge (i + 1) n with h4 | h4
        · exact h3 h4
        · rw [show i + 1 = n from by omega]; omega
theorem mulb {x y M N : Int} (h : -M ≤ x ∧ x ≤ M) (k : -N ≤ y ∧ y ≤ N) : -(M * N) ≤ x * y ∧ x * y ≤ M * N := mul_bd h k
theorem atC {v : Value} {n : Nat} {T X Y H R B : Nat → Int} {w : World} (hv : TV w v n T X Y H R B) (hp : tok T X Y H R B n) {t : Int} {i : Nat} (hs : tseg T n t i) (hl : t ≤ T (n - 1)) :
    Calls Tryz.prog 34 #[v, .int .i64 t] w fun e w' => e = .returned (.agg #[.int .i64 t, .int .i64 (tx T X i t), .int .i64 (tx T Y i t), .int .i64 (th T H i t), .int .i64 (tu T R i t), .int .i64 (tu T B i t)]) ∧ Below w.heap.size w w' := by
  have hT : ∀ k, k < n → 0 ≤ T k ∧ T k ≤ 200000 := hp.time
  have hn := hp.small
  rcases hv with ⟨h0, -⟩ | ⟨h0, b, off, cap, rfl, h1, h2, h3⟩
  · have := hp.pos; omega
  · have hm := Nat.le_trans h2 (show maxLen ≤ 9223372036854775807 by decide)
    have ti := hT i hs.1
    have tn := hT (n - 1) (by omega)
    have hle := hs.2.1
    by_cases he : T i = t
    · subst he
      rw [tx_at, tx_at, th_at, tu_at, tu_at]
      refine at_exact n cap b off T X Y H R B (T i) i w hs.1 hn h1 hm (Lib.hid h3) (Lib.hid fun w1 hb => ?_)
      exact search_yes n cap b off T X Y H R B (T i) i w1 hs.1 hn h1 hm (Lib.hid fun k hk => s6_keep hb (h3 k hk)) (Lib.hid fun k hk => tok_lt hp hk hs.1) (Lib.hid fun k hk hkn => tok_le hp hk hkn) (Lib.hid hT) (by omega) rfl
    · have hin : i + 1 < n := by
        rcases Nat.lt_or_ge (i + 1) n with h | h
        · exact h
        · have : i = n - 1 := by have := hs.1; omega
          subst this; omega
      have hlt := hs.2.2 hin
      have ti1 := hT (i + 1) hin
      have q0 := hp.nums i hs.1; have q1 := hp.nums (i + 1) hin
      have g0 := hp.point i hs.1; have g1 := hp.point (i + 1) hin
      have hN : 0 < T (i + 1) - T i := by omega
      have d1 := quo_bd (d := H (i + 1) - H i) (n := t - T i) hN (by omega) (by omega)
      have d2 := up_bd (d := R (i + 1) - R i) (n := t - T i) hN (by omega) (by omega)
      have d3 := up_bd (d := B (i + 1) - B i) (n := t - T i) hN (by omega) (by omega)
      have m1 := mulb (x := H (i + 1) - H i) (y := t - T i) (M := 60000) (N := 200000) (by omega) (by omega)
      have m2 := mulb (x := R (i + 1) - R i) (y := t - T i) (M := 1000000) (N := 200000) (by omega) (by omega)
      have m3 := mulb (x := B (i + 1) - B i) (y := t - T i) (M := 60000) (N := 200000) (by omega) (by omega)
      have du : ∀ a : Int, -900000000000 ≤ a ∧ a ≤ 900000000000 → DvC 57 a (T (i + 1) - T i) (up a (T (i + 1) - T i)) := fun a ha w => by
        have c := Num.divUp a (T (i + 1) - T i) w (by omega) (by omega)
        rw [(du_up hN).1, (du_up hN).2] at c; exact c
      refine at_between n cap b off T X Y H R B t i w hin hn h1 hm (Lib.hid h3) (Lib.hid fun w1 hb => ?_) _ _ _ _ _ (Lib.hid fun w => toward_ok _ _ _ _ _ _ w hN (by omega) (by omega) (by omega) g0 g1)
        (Lib.hid (dv _ _ (by omega) (by omega))) (Lib.hid (du _ (by omega))) (Lib.hid (du _ (by omega))) (by omega) (by omega) (by omega) (by omega) (by omega) (by omega) (by omega)
      exact search_no n cap b off T X Y H R B t (i + 1) w1 hin hn h1 hm (Lib.hid fun k hk => s6_keep hb (h3 k hk)) (Lib.hid fun k hk => by have := tok_le hp (i := k) (j := i) (by omega) hs.1; omega) (Lib.hid fun k hk hkn => by have := tok_le hp (i := i + 1) (j := k) hk hkn; omega) (Lib.hid hT) (by omega) (by omega)
/-- tube.At's error. -/
def tatE (T X Y H R B : Nat → Int) (n : Nat) (t : Int) : Int := if tck T X Y H R B n ≠ 0 then tck T X Y H R B n else if t < T 0 ∨ T (n - 1) < t then 12 else 0
theorem tatE_zero {T X Y H R B : Nat → Int} {n : Nat} {t : Int} (h : tatE T X Y H R B n t = 0) : tok T X Y H R B n ∧ T 0 ≤ t ∧ t ≤ T (n - 1) ∧ ∃ i, tseg T n t i := by
  unfold tatE at h
  split at h
  · rename_i h1; exact absurd h h1
  · rename_i h1
    split at h
    · omega
    · have hp := (tck_zero n).1 (Classical.not_not.1 h1)
      exact ⟨hp, by omega, by omega, tseg_ex hp.pos (by omega)⟩
theorem endsC {v : Value} {n : Nat} {T X Y H R B : Nat → Int} {w : World} (hv : TV w v n T X Y H R B) (hp : tok T X Y H R B n) : ∀ w1, Below w.heap.size w w1 → Calls Tryz.prog 33 #[v] w1 fun e w' => e = .returned (.tuple #[.int .i64 (T 0), .int .i64 (T (n - 1))]) ∧ Below w1.heap.size w1 w' := fun w1 hb => by
  rcases tv_keep hb hv with ⟨h0, -⟩ | ⟨h0, b, off, cap, rfl, h1, h2, h3⟩
  · have := hp.pos; omega
  · exact ends_w n cap b off T X Y H R B w1 hp.pos hp.small h1 (Nat.le_trans h2 (by decide)) (Lib.hid h3)
theorem tAt_ok {v : Value} {n : Nat} {T X Y H R B : Nat → Int} {w : World} (hv : TV w v n T X Y H R B) {t : Int} {i : Nat} (h : tatE T X Y H R B n t = 0) (hs : tseg T n t i) :
    Calls Tryz.prog 12 #[v, .int .i64 t] w fun e w' => e = .returned (.tuple #[.agg #[.int .i64 t, .int .i64 (tx T X i t), .int .i64 (tx T Y i t), .int .i64 (th T H i t), .int .i64 (tu T R i t), .int .i64 (tu T B i t)], .int .i64 0]) ∧ Below w.heap.size w w' := by
  obtain ⟨hp, h0, h1, -⟩ := tatE_zero h
  have C := checkC hv
  rw [(tck_zero n).2 hp] at C
  exact At_ok v t _ _ _ _ _ _ _ w (Lib.hid C) (Lib.hid (endsC hv hp)) (by omega) (by omega) (Lib.hid fun w1 hb => atC (tv_keep hb hv) hp hs h1)
theorem tAt_bad {v : Value} {n : Nat} {T X Y H R B : Nat → Int} {w : World} (hv : TV w v n T X Y H R B) {t : Int} (h : tatE T X Y H R B n t ≠ 0) :
    Calls Tryz.prog 12 #[v, .int .i64 t] w fun e w' => e = .returned (.tuple #[.agg #[.int .i64 0, .int .i64 0, .int .i64 0, .int .i64 0, .int .i64 0, .int .i64 0], .int .i64 (tatE T X Y H R B n t)]) ∧ Below w.heap.size w w' := by
  have C := checkC hv
  unfold tatE at h ⊢
  by_cases hE : tck T X Y H R B n ≠ 0
  · rw [if_pos hE]
    exact At_bad v t _ w (Lib.hid C) (by simpa using hE) (by simpa using hE)
  · rw [if_neg hE] at h ⊢
    by_cases ht : t < T 0 ∨ T (n - 1) < t
    · rw [if_pos ht]
      have hE := Classical.not_not.1 hE
      rw [hE] at C
      exact At_time v t _ _ w (Lib.hid C) (Lib.hid (endsC hv ((tck_zero n).1 hE))) ht
    · rw [if_neg ht] at h; exact absurd rfl h
end Tube
end Go.Proofs.YtmkglhoahdlogaaGreatDoor
namespace Go.Proofs.YtmkglhoahdlogaaGreatDoor
open Go.RowKit
namespace Tube
open Kit Plane
theorem ret_bi {a b : Bool} {c : Int} (h : a = b) : Ending.returned (.tuple #[.bool a, .int .i64 c]) = .returned (.tuple #[.bool b, .int .i64 c]) := by rw [h]
end Tube
end Go.Proofs.YtmkglhoahdlogaaGreatDoor
namespace Go.Proofs.YtmkglhoahdlogaaGreatDoor
open Go.RowKit
namespace Tube
open Kit Plane Path
theorem info_tn : (Tryz.prog.info? 57).map (fun i => (i.zero, i.size, i.bytes)) = some (some (.agg #[.int .i64 0, .int .i64 0, .int .i64 0, .int .i64 0, .int .i64 0, .int .i64 0]), 6, 48) := by kernel_rfl
set_option maxHeartbeats 1000000 in
theorem Of_bad (v : Value) (r g d E : Int) (w : World) (C : Hid (Path.CkC v E w)) (_hE1 : (E == 0) = false) (hE2 : (E != 0) = true) :
    Calls Tryz.prog 31 #[v, .int .i64 r, .int .i64 g, .int .i64 d] w fun e w' => e = .returned (.tuple #[.slice none 0 0, .int .i64 E]) ∧ Below w.heap.size w w' := by
  go_enter Tryz.func31, Tryz.ntmps31
  go_wp2_with fail
  (with_reducible refine (C.out _ (Below.refl _ _)).mono ?_); rintro e w1 ⟨rfl, hw⟩
  go_wp2_with fail
  go_ret2
  exact ⟨rfl, hw⟩
set_option maxHeartbeats 1000000 in
theorem Of_no (n cap b off : Nat) (_T _X _Y _H : Nat → Int) (r g d : Int) (w : World) (_h0 : 0 < n) (_hn : n ≤ 64) (_hc : n ≤ cap) (_hm : cap ≤ 9223372036854775807) (C : Hid (Path.CkC (.slice (some ⟨b, off, none⟩) n cap) 0 w)) (hx : r < 0 ∨ 1000000 < r ∨ g < 0 ∨ 1000000 < g ∨ d < 0 ∨ 60000 < d) :
    Calls Tryz.prog 31 #[.slice (some ⟨b, off, none⟩) n cap, .int .i64 r, .int .i64 g, .int .i64 d] w fun e w' => e = .returned (.tuple #[.slice none 0 0, .int .i64 4]) ∧ Below w.heap.size w w' := by
  go_enter Tryz.func31, Tryz.ntmps31
  go_wp2_with fail
  (with_reducible refine (C.out _ (Below.refl _ _)).mono ?_); rintro e w1 ⟨rfl, hw⟩
  go_wp2_with fail
  all_goals first | (exfalso; omega) | (go_ret2; exact ⟨rfl, hw⟩)
/-- The numbers of a tube made of a path. -/
def ofF (T X Y H : Nat → Int) (r d : Int) (wd : Nat → Int) : Nat → Nat → Int := fun i j => if j = 0 then T i else if j = 1 then X i else if j = 2 then Y i else if j = 3 then H i else if j = 4 then r + wd i else d
theorem new6 (w : World) (ty : TypeId) (t x y h r d : Int) : ∀ j u, [Value.int .i64 t, .int .i64 x, .int .i64 y, .int .i64 h, .int .i64 r, .int .i64 d][j]? = some u → (w.alloc (.cells #[.int .i64 t, .int .i64 x, .int .i64 y, .int .i64 h, .int .i64 r, .int .i64 d] ty)).cell? ((⟨w.heap.size, 0, none⟩ : Addr).add j) = some u := by
  intro j u hj
  match j, hj with
  | 0, hj => simp [Addr.add] at hj ⊢; exact hj
  | 1, hj => simp [Addr.add] at hj ⊢; exact hj
  | 2, hj => simp [Addr.add] at hj ⊢; exact hj
  | 3, hj => simp [Addr.add] at hj ⊢; exact hj
  | 4, hj => simp [Addr.add] at hj ⊢; exact hj
  | 5, hj => simp [Addr.add] at hj ⊢; exact hj
  | j + 6, hj => simp at hj
theorem new6_one {t x y h r d : Int} : ∀ u ∈ [Value.int .i64 t, .int .i64 x, .int .i64 y, .int .i64 h, .int .i64 r, .int .i64 d], u.oneCell' = true := by
  intro u hu
  simp at hu
  rcases hu with rfl | rfl | rfl | rfl | rfl | rfl <;> rfl
set_option maxRecDepth 100000 in
set_option maxHeartbeats 2000000 in
theorem Of_walk (n cap b off : Nat) (T X Y H : Nat → Int) (r g d : Int) (wd : Nat → Int) (w : World) (h0 : 0 < n) (hn : n ≤ 64) (hc : n ≤ cap) (hm : cap ≤ 9223372036854775807) (C : Hid (Path.CkC (.slice (some ⟨b, off, none⟩) n cap) 0 w)) (HV : Hid (∀ k, k < n → N4 w b off k (T k) (X k) (Y k) (H k)))
    (b1 : 0 ≤ r ∧ r ≤ 1000000) (b2 : 0 ≤ g ∧ g ≤ 1000000) (b3 : 0 ≤ d ∧ d ≤ 60000) (D : Hid (∀ k, k < n → ∀ w : World, Calls Tryz.prog 57 #[.int .i64 (g * (T k - T 0)), .int .i64 60] w fun e w' => e = .returned (.tuple #[.int .i64 (wd k), .int .i64 0]) ∧ Below w.heap.size w w'))
    (HB : Hid (∀ k, k < n → 0 ≤ T k ∧ T k ≤ 200000 ∧ -1000000000000 ≤ g * (T k - T 0) ∧ g * (T k - T 0) ≤ 1000000000000 ∧ -100000000000 ≤ wd k ∧ wd k ≤ 100000000000)) :
    Calls Tryz.prog 31 #[.slice (some ⟨b, off, none⟩) n cap, .int .i64 r, .int .i64 g, .int .i64 d] w fun e w' =>
      ((e = .returned (.tuple #[.slice none 0 0, .int .i64 4]) ∧ ∃ k, k < n ∧ 1000000 < r + wd k) ∨ (∃ v, e = .returned (.tuple #[v, .int .i64 0]) ∧ Own w' w.heap.size 57 6 v n (ofF T X Y H r d wd) ∧ ∀ k, k < n → r + wd k ≤ 1000000)) ∧ Below w.heap.size w w' := by
  obtain ⟨i0, hi, hz0, hz1, hz2⟩ := info_parts info_tn
  have I := Lib.hid (And.intro hi (And.intro hz0 (And.intro hz1 hz2))); clear hi hz0 hz1 hz2
  go_enter Tryz.func31, Tryz.ntmps31
  go_wp2_with fail
  (with_reducible refine (C.out _ (Below.refl _ _)).mono ?_); rintro e w1 ⟨rfl, hw⟩
  go_wp2_with fail
  all_goals first | (exfalso; omega) | skip
  go_loopw [45, 11] (fun s u wr => ∃ k : Nat, k ≤ n ∧ s = .int .i64 k ∧ Own wr w.heap.size 57 6 u k (ofF T X Y H r d wd) ∧ Below w.heap.size w wr ∧ ∀ j, j < k → r + wd j ≤ 1000000) (fun s _ _ => n - (intOf s).toNat)
  case atStart => exact ⟨0, Nat.zero_le _, rfl, own_nil _ _ _ _ _, hw, fun j h => absurd h (Nat.not_lt_zero _)⟩
  case round =>
    obtain ⟨k, hk, rfl, ho, hbl, hj⟩ := hrel
    have HO := Lib.hid ho; have HJ := Lib.hid hj; have HL := Lib.hid hbl; clear ho hj
    by_cases hlt : k < n
    · have hl : (k : Int) < (n : Int) := by omega
      have hB := HB.out k hlt
      have hB0 := HB.out 0 h0
      have e0 := n4_keep hbl (HV.out k hlt); clear hbl
      have Z := Lib.hid (c4_new wr 55 (T k) (X k) (Y k) (H k))
      have N0 := Lib.hid (n4_keep (b_alloc HL.out (.cells #[.int .i64 (T k), .int .i64 (X k), .int .i64 (Y k), .int .i64 (H k)] 55)) (HV.out 0 h0))
      have W0 := Lib.hid (b_alloc HL.out (.cells #[.int .i64 (T k), .int .i64 (X k), .int .i64 (Y k), .int .i64 (H k)] 55))
      have O0 := Lib.hid (own_keep (b_alloc (Below.refl wr.heap.size wr) (.cells #[.int .i64 (T k), .int .i64 (X k), .int .i64 (Y k), .int .i64 (H k)] 55)) HO.out)
      have v1 : IntKind.i64.wrap (T k - T 0) = T k - T 0 := IntWalk.i64_in _ (by omega)
      have v2 : IntKind.i64.wrap (g * (T k - T 0)) = g * (T k - T 0) := IntWalk.i64_in _ (by omega)
      go_wp2_with fail
      refine d_region (by kernel_rfl) (by kernel_rfl) ?_
      repeat
        first
          | (refine d_plain (by with_reducible rfl) ?_; apply Exists.intro; refine ⟨fun wq hc hq => ?_, ?_⟩)
          | (refine d_on (by with_reducible rfl) (by rfl) (by with_reducible rfl) ?_; apply Exists.intro; refine ⟨fun wq hc hq => ?_, ?_⟩)
          | (refine d_off (by with_reducible rfl) (by rfl) (by rfl) ?_)
          | (refine d_void (by with_reducible rfl) (by rfl) ?_)
        try any_goals
          (have q0 := c4_keep (cls hq) Z.out; obtain ⟨⟨c0, -⟩, -⟩ := n4_keep (cls hq) N0.out; rw [Nat.zero_mul, Nat.add_zero] at c0; clear hc
           go_simp
           first
             | rfl
             | (go_at_call 57; with_reducible exact call_below hq (D.out k hlt _)))
        simp only [Act.put, List.setIfInBounds_toArray, List.set_cons_zero, List.set_cons_succ]
      refine d_nil ?_
      intro w2 hb2
      have hw2 := b_next W0.out hb2
      have ho2 := own_keep hb2 O0.out
      have z2 := c4_keep hb2 Z.out
      clear hb2
      have n2 := new_ne z2.1.1
      have ho3 := own_keep (b_alloc (Below.refl w2.heap.size w2) (.cells #[.int .i64 (T k), .int .i64 (X k), .int .i64 (Y k), .int .i64 (H k), .int .i64 (r + wd k), .int .i64 d] 57)) ho2
      have HN := Lib.hid (new6 w2 57 (T k) (X k) (Y k) (H k) (r + wd k) d)
      have HO3 := Lib.hid ho3; have HW2 := Lib.hid hw2; have HW3 := Lib.hid (b_alloc hw2 (.cells #[.int .i64 (T k), .int .i64 (X k), .int .i64 (Y k), .int .i64 (H k), .int .i64 (r + wd k), .int .i64 d] 57)); clear ho3 ho2 hw2
      go_wp2_with (at_builtin; refine wpList_append_own_at _ rfl (.tmp 66) (.tmp 73) 47 rfl w.heap.size 57 i0 _ 6 48 Tryz.underlying47 I.out.1 I.out.2.1 I.out.2.2.1 I.out.2.2.2 rfl (by decide) _ k _ rfl HO3.out ⟨w2.heap.size, 0, none⟩ 1 1 [.int .i64 (T k), .int .i64 (X k), .int .i64 (Y k), .int .i64 (H k), .int .i64 (r + wd k), .int .i64 d] rfl rfl HN.out new6_one (by unfold maxLen; omega) (by omega) HW3.out.size ?_; intro v1 w3 hown1 hg1 hnil1 hat1)
      · go_ret2
        exact ⟨Or.inl ⟨rfl, k, hlt, by omega⟩, HW2.out⟩
      · refine ⟨⟨k + 1, by omega, by go_num, hown1, grow_below HW3.out HO3.out hg1 (Nat.le_refl _) HW3.out.size, fun j hj => ?_⟩, by simp [intOf]; omega⟩
        rcases Nat.lt_or_ge j k with h | h
        · exact HJ.out j h
        · have : j = k := by omega
          subst this; omega
    · have he : k = n := by omega
      have hl : ¬ (k : Int) < (n : Int) := by omega
      go_wp2_with fail
      go_ret2
      subst he
      exact ⟨Or.inr ⟨_, rfl, HO.out, HJ.out⟩, hbl⟩
end Tube
end Go.Proofs.YtmkglhoahdlogaaGreatDoor
namespace Go.Proofs.YtmkglhoahdlogaaGreatDoor
open Go.RowKit
namespace Tube
open Kit Plane Path
/-- The bounds of an interpolated node. -/
theorem at_bds {n : Nat} {T X Y H R B : Nat → Int} (hp : tok T X Y H R B n) {t : Int} {i : Nat} (hs : tseg T n t i) (hl : t ≤ T (n - 1)) :
    good (tx T X i t) (tx T Y i t) ∧ (0 ≤ th T H i t ∧ th T H i t ≤ 60000) ∧ (0 ≤ tu T R i t ∧ tu T R i t ≤ 1000000) ∧ (0 ≤ tu T B i t ∧ tu T B i t ≤ 60000) := by
  have g0 := hp.point i hs.1
  have q0 := hp.nums i hs.1
  have hle := hs.2.1
  by_cases he : T i = t
  · subst he
    rw [tx_at, tx_at, th_at, tu_at, tu_at]
    exact ⟨g0, q0⟩
  · have hin : i + 1 < n := by
      rcases Nat.lt_or_ge (i + 1) n with h | h
      · exact h
      · have : i = n - 1 := by have := hs.1; omega
        subst this; omega
    have hlt := hs.2.2 hin
    have g1 := hp.point (i + 1) hin
    have q1 := hp.nums (i + 1) hin
    have hN : 0 < T (i + 1) - T i := by omega
    have d1 := quo_bd (d := H (i + 1) - H i) (n := t - T i) hN (by omega) (by omega)
    have d2 := up_bd (d := R (i + 1) - R i) (n := t - T i) hN (by omega) (by omega)
    have d3 := up_bd (d := B (i + 1) - B i) (n := t - T i) hN (by omega) (by omega)
    have x1 := tw_bd (a := X i) (b := X (i + 1)) (n := t - T i) hN (by omega) (by omega)
    have y1 := tw_bd (a := Y i) (b := Y (i + 1)) (n := t - T i) hN (by omega) (by omega)
    unfold good at g0 g1
    unfold good tx th tu
    omega
/-- tube.Has's error. -/
def hasE (T X Y H R B : Nat → Int) (n : Nat) (u qx qy hh : Int) : Int := if tatE T X Y H R B n u ≠ 0 then tatE T X Y H R B n u else if chk qx qy ≠ 0 ∨ hh < 0 ∨ 60000 < hh then 4 else 0
/-- tube.Has's answer, in the segment i. -/
def hasB (T X Y H R B : Nat → Int) (i : Nat) (u qx qy hh : Int) : Bool := inB (sqr (tx T X i u) (tx T Y i u) qx qy) (tu T R i u) && decide (max (th T H i u - hh) (hh - th T H i u) ≤ tu T B i u)
theorem chk_two (x y : Int) : chk x y = 0 ∨ chk x y = 4 := by unfold chk; split <;> simp
theorem good_of {x y : Int} (h : chk x y = 0) : good x y := by
  unfold chk at h; unfold good
  split at h <;> omega
theorem hasE_zero {T X Y H R B : Nat → Int} {n : Nat} {u qx qy hh : Int} (h : hasE T X Y H R B n u qx qy hh = 0) : tatE T X Y H R B n u = 0 ∧ chk qx qy = 0 ∧ 0 ≤ hh ∧ hh ≤ 60000 := by
  unfold hasE at h
  split at h
  · rename_i h1; exact absurd h h1
  · rename_i h1
    split at h
    · omega
    · exact ⟨Classical.not_not.1 h1, by omega, by omega, by omega⟩
/-- How much a tube has widened at node k. -/
def wid (T : Nat → Int) (g : Int) (k : Nat) : Int := up (g * (T k - T 0)) 60
theorem up_mono {a b d : Int} (hd : 0 < d) (h : a ≤ b) : up a d ≤ up b d := by
  unfold up
  have := Int.ediv_le_ediv hd (show -b ≤ -a by omega)
  omega
theorem up_nonneg {a d : Int} (hd : 0 < d) (h : 0 ≤ a) : 0 ≤ up a d := by
  have := up_mono hd h
  rw [show up 0 d = 0 from by unfold up; rw [Int.neg_zero, Int.zero_ediv]; rfl] at this
  exact this
/-- tube.Of's error. -/
def ofE (T X Y H : Nat → Int) (n : Nat) (r g d : Int) : Int := if pchk T X Y H n ≠ 0 then pchk T X Y H n else if r < 0 ∨ 1000000 < r ∨ g < 0 ∨ 1000000 < g ∨ d < 0 ∨ 60000 < d then 4 else if 1000000 < r + wid T g (n - 1) then 4 else 0
structure OfOk (T X Y H : Nat → Int) (n : Nat) (r g d : Int) : Prop where
  path : pok T X Y H n
  rad : 0 ≤ r ∧ r ≤ 1000000
  gro : 0 ≤ g ∧ g ≤ 1000000
  ban : 0 ≤ d ∧ d ≤ 60000
theorem wid_bd {T X Y H : Nat → Int} {n : Nat} {r g d : Int} (h : OfOk T X Y H n r g d) {k : Nat} (hk : k < n) : 0 ≤ T k ∧ T k ≤ 200000 ∧ 0 ≤ g * (T k - T 0) ∧ g * (T k - T 0) ≤ 200000000000 ∧ 0 ≤ wid T g k ∧ wid T g k ≤ 4000000000 ∧ wid T g k ≤ wid T g (n - 1) := by
  have t0 := h.path.2.2.1 0 h.path.1
  have tk := h.path.2.2.1 k hk
  have tn := h.path.2.2.1 (n - 1) (by omega)
  have l0 := pok_le h.path (Nat.zero_le k) hk
  have ln := pok_le h.path (show k ≤ n - 1 by omega) (show n - 1 < n by omega)
  have g0 := h.gro
  have m := Tube.mulb (x := g) (y := T k - T 0) (M := 1000000) (N := 200000) (by omega) (by omega)
  have m0 : 0 ≤ g * (T k - T 0) := Int.mul_nonneg g0.1 (by omega)
  have m1 : g * (T k - T 0) ≤ g * (T (n - 1) - T 0) := Int.mul_le_mul_of_nonneg_left (by omega) g0.1
  have u0 := up_nonneg (d := 60) (by omega) m0
  have u1 := up_mono (d := 60) (by omega) m1
  have u2 : up (g * (T k - T 0)) 60 ≤ 4000000000 := by
    unfold up
    omega
  unfold wid
  omega
theorem of_all {v : Value} {n : Nat} {T X Y H : Nat → Int} {w : World} (hv : PV w v n T X Y H) {r g d : Int} (h : OfOk T X Y H n r g d) :
    Calls Tryz.prog 31 #[v, .int .i64 r, .int .i64 g, .int .i64 d] w fun e w' =>
      ((e = .returned (.tuple #[.slice none 0 0, .int .i64 4]) ∧ ∃ k, k < n ∧ 1000000 < r + wid T g k) ∨ (∃ v, e = .returned (.tuple #[v, .int .i64 0]) ∧ Own w' w.heap.size 57 6 v n (ofF T X Y H r d (wid T g)) ∧ ∀ k, k < n → r + wid T g k ≤ 1000000)) ∧ Below w.heap.size w w' := by
  have C := Path.checkC hv
  rw [(pchk_zero n).2 h.path] at C
  rcases hv with ⟨h0, -⟩ | ⟨h0, b, off, cap, rfl, h1, h2, h3⟩
  · have := h.path.1; omega
  · refine Of_walk n cap b off T X Y H r g d (wid T g) w h0 h.path.2.1 h1 (Nat.le_trans h2 (by decide)) (Lib.hid C) (Lib.hid h3) h.rad h.gro h.ban (Lib.hid fun k hk w => ?_) (Lib.hid fun k hk => ?_)
    · have bd := wid_bd h hk
      have c := Num.divUp (g * (T k - T 0)) 60 w (by omega) (by omega)
      rw [(du_up (by omega)).1, (du_up (by omega)).2] at c
      refine c.mono fun e w' ⟨he, hw⟩ => ⟨he, ?_⟩
      subst hw; exact Below.refl _ _
    · have bd := wid_bd h hk; omega
theorem tv_row {w : World} {g n cap : Nat} {T X Y H : Nat → Int} {r d : Int} {wd : Nat → Int} (h0 : 0 < n) (hc : n ≤ cap) (hm : cap ≤ maxLen) (h : RowAt w g n 6 (ofF T X Y H r d wd)) : TV w (.slice (some ⟨g, 0, none⟩) n cap) n T X Y H (fun k => r + wd k) (fun _ => d) := by
  refine Or.inr ⟨h0, g, 0, cap, rfl, hc, hm, fun k hk => ?_⟩
  have c0 := h.cell k hk 0 (by omega); have c1 := h.cell k hk 1 (by omega); have c2 := h.cell k hk 2 (by omega); have c3 := h.cell k hk 3 (by omega); have c4 := h.cell k hk 4 (by omega); have c5 := h.cell k hk 5 (by omega)
  rw [Nat.add_zero] at c0
  unfold S6
  simp only [Nat.zero_add]
  exact ⟨⟨c0, c1, c2⟩, c3, c4, c5⟩
theorem ofE_zero {T X Y H : Nat → Int} {n : Nat} {r g d : Int} (h : ofE T X Y H n r g d = 0) : OfOk T X Y H n r g d ∧ r + wid T g (n - 1) ≤ 1000000 := by
  unfold ofE at h
  split at h
  · rename_i h1; exact absurd h h1
  · rename_i h1
    split at h
    · omega
    · split at h
      · omega
      · exact ⟨⟨(pchk_zero n).1 (Classical.not_not.1 h1), by omega, by omega, by omega⟩, by omega⟩
theorem of_ok {v : Value} {n : Nat} {T X Y H : Nat → Int} {w : World} (hv : PV w v n T X Y H) {r g d : Int} (h : ofE T X Y H n r g d = 0) :
    Calls Tryz.prog 31 #[v, .int .i64 r, .int .i64 g, .int .i64 d] w fun e w' => ∃ b cap, e = .returned (.tuple #[.slice (some ⟨b, 0, none⟩) n cap, .int .i64 0]) ∧ n ≤ cap ∧ cap ≤ maxLen ∧ RowAt w' b n 6 (ofF T X Y H r d (wid T g)) ∧ w.heap.size ≤ b ∧ Below w.heap.size w w' := by
  obtain ⟨ok, hw⟩ := ofE_zero h
  refine (of_all hv ok).mono ?_
  rintro e w' ⟨⟨-, k, hk, hx⟩ | ⟨v', rfl, ho, -⟩, hb⟩
  · have := wid_bd ok hk; omega
  · obtain ⟨b, cap, rfl, h1, h2, h3, h4, h5⟩ := own_row ho ok.path.1
    exact ⟨b, cap, rfl, h3, h4, h5, h1, hb⟩
theorem of_bad {v : Value} {n : Nat} {T X Y H : Nat → Int} {w : World} (hv : PV w v n T X Y H) {r g d : Int} (h : ofE T X Y H n r g d ≠ 0) :
    Calls Tryz.prog 31 #[v, .int .i64 r, .int .i64 g, .int .i64 d] w fun e w' => e = .returned (.tuple #[.slice none 0 0, .int .i64 (ofE T X Y H n r g d)]) ∧ Below w.heap.size w w' := by
  have C := Path.checkC hv
  unfold ofE at h ⊢
  by_cases hE : pchk T X Y H n ≠ 0
  · rw [if_pos hE]
    exact Of_bad v r g d _ w (Lib.hid C) (by simpa using hE) (by simpa using hE)
  · rw [if_neg hE] at h ⊢
    have hE := Classical.not_not.1 hE
    have hp := (pchk_zero n).1 hE
    rw [hE] at C
    by_cases hx : r < 0 ∨ 1000000 < r ∨ g < 0 ∨ 1000000 < g ∨ d < 0 ∨ 60000 < d
    · rw [if_pos hx]
      rcases hv with ⟨h0, -⟩ | ⟨h0, b, off, cap, rfl, h1, h2, h3⟩
      · have := hp.1; omega
      · exact Of_no n cap b off T X Y H r g d w h0 hp.2.1 h1 (Nat.le_trans h2 (by decide)) (Lib.hid C) hx
    · rw [if_neg hx] at h ⊢
      have ok : OfOk T X Y H n r g d := ⟨hp, by omega, by omega, by omega⟩
      by_cases hw : 1000000 < r + wid T g (n - 1)
      · rw [if_pos hw]
        refine (of_all hv ok).mono ?_
        rintro e w' ⟨⟨rfl, -⟩ | ⟨v', rfl, -, hx⟩, hb⟩
        · exact ⟨rfl, hb⟩
        · have := hx (n - 1) (by have := hp.1; omega); omega
      · rw [if_neg hw] at h; exact absurd rfl h
end Tube
end Go.Proofs.YtmkglhoahdlogaaGreatDoor
