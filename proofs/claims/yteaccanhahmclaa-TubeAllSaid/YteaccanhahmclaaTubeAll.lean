/- TubeAll: the iterator yields the nodes of all seconds in order. For every input, with no condition. -/
import Derived.Test.YteaccanhahmclaaTbA
import Derived.Test.YteaccanhahmclaaTbL
import Derived.Test.YteaccanhahmclaaTubeW
import Derived.Test.YteaccanhahmclaaInsQ
import Derived.Test.YteaccanhahmclaaRnd
import Derived.Test.YteaccanhahmclaaTail
import Derived.Test.YteaccanhahmclaaShapes
namespace Go.Proofs.Yteaccanhahmclaa
open Go.RowKit Go.ChangeShapes Go.WideShapes
attribute [local go_sem] Oper.semAt_some
namespace TubeAll
open Kit Plane Tube
theorem ko_below {A B : World} (h : Below A.heap.size A B) : KeepsOthers A B := ⟨h.size, fun k _ hk _ => (h.block k (Array.getElem?_eq_some_iff.1 hk).1).trans hk⟩
theorem kp_small {n₁ n₀ : Nat} {A B : World} (h : Below A.heap.size A B) (hs : n₀ ≤ A.heap.size) : KpR n₁ n₀ A B := fun k _ h2 => h.block k (by omega)
theorem kp_set {n₁ n₀ b : Nat} {A : World} (h : b < n₁) (u : Value) : KpR n₁ n₀ A (A.setCell ⟨b, 0, none⟩ u) := fun k h1 _ => Below.heap_setCell A ⟨b, 0, none⟩ u k (by show k ≠ b; omega)
theorem size_set (A : World) (p : Addr) (u : Value) : (A.setCell p u).heap.size = A.heap.size := by show (A.heap.modify p.block _).size = _; rw [Array.size_modify]
set_option maxRecDepth 100000 in
set_option maxHeartbeats 8000000 in
theorem core (A0 : Option Addr) (n c0 : Nat) (T X Y H R B : Nat → Int) (w : World) (_hc9 : c0 ≤ 9223372036854775807) (_hnc : n ≤ c0) (HV : Hid (TV w (.slice A0 n c0) n T X Y H R B)) :
    Calls Try.prog 9 #[.slice A0 n c0] w fun e w' => e = .returned (.bool true) ∧ Below w.heap.size w w' := by
  refine (callsIn_wide (n := 6)).1 ?_
  refine callsIn_of_wp_marks Try.func9 rfl trivial ?_ rfl
  simp only [Try.ntmps9, List.size_toArray, List.length_cons, List.length_nil, Nat.reduceAdd, Nat.reduceSub, Array.replicate_succ, Array.replicate_zero, List.push_toArray, List.append_toArray, List.nil_append, List.cons_append]
  have W0 := Lib.hid (b_alloc (b_alloc (Below.refl w.heap.size w) (.cells #[.slice A0 n c0] 62)) (.cells #[.bool false] 4))
  have X0 := Lib.hid (Boxed.alloc (Boxed.new w 62 (.slice A0 n c0)) (.cells #[.bool false] 4))
  have R0 := Boxed.new (w.alloc (.cells #[.slice A0 n c0] 62)) 4 (.bool false)
  rw [World.size_alloc] at R0
  have R0 := Lib.hid R0
  obtain ⟨B1, hB1⟩ : ∃ B1, B1 = w.heap.size := ⟨_, rfl⟩
  gi_wp2_with fail
  refine ⟨trivial, ?_⟩; refine (callsIn_wide.2 (tubeWorks _)).mono ?_; rintro e w1 ⟨rfl, hb⟩
  have W1 := Lib.hid (b_next W0.out hb); have X1 := Lib.hid (X0.out.kept (grown_of_below hb) (by simp)); have R1 := Lib.hid (R0.out.kept (grown_of_below hb) (by simp)); clear hb
  rw [← hB1] at X1 R1 ⊢
  have HB1 := Lib.hid hB1; clear hB1 W0 X0 R0
  have x1 := X1.out.cell
  have LG : Hid (Calls Try.prog 33 #[.slice (some ⟨w1.heap.size, 0, none⟩) 1 1] (w1.alloc (.cells #[.slice A0 n c0] 62)) fun e w' => (e = .returned (.bool true) ∨ (e = .returned (.bool false) ∧ n ≤ 12)) ∧ Below (w1.alloc (.cells #[.slice A0 n c0] 62)).heap.size (w1.alloc (.cells #[.slice A0 n c0] 62)) w') := Lib.hid ((long_lt w1.heap.size 1 1 (fun _ => .slice A0 n c0) (fun _ => n) (w1.alloc (.cells #[.slice A0 n c0] 62)) (Nat.le_refl _) (by decide) (Lib.hid fun k hk => by
    obtain rfl : k = 0 := by omega
    exact ⟨by simp, T, X, Y, H, R, B, tv_keep (b_next W1.out (b_alloc (Below.refl _ _) _)) HV.out⟩)).mono fun e w' h => ⟨h.1.imp id fun q => ⟨q.1, q.2 0 Nat.one_pos⟩, h.2⟩)
  have W2 := Lib.hid (b_alloc W1.out (.cells #[.slice A0 n c0] 62))
  have X2 := Lib.hid (X1.out.alloc (.cells #[.slice A0 n c0] 62)); have R2 := Lib.hid (R1.out.alloc (.cells #[.slice A0 n c0] 62))
  gi_wp2_with fail
  refine ⟨trivial, ?_⟩; refine (callsIn_wide.2 LG.out).mono ?_; rintro e w2 ⟨hr, hb⟩
  have W3 := Lib.hid (b_next W2.out hb); have X3 := Lib.hid (X2.out.kept (grown_of_below hb) (by simp)); have R3 := Lib.hid (R2.out.kept (grown_of_below hb) (by simp))
  clear hb x1 LG W2 X2 R2
  have r3 := R3.out.cell; have rf := R3.out.frozen
  rcases hr with rfl | ⟨rfl, hn12⟩
  · gi_wp2_with fail
    have hc5 := World.cell?_setCell_same' w2 ⟨B1 + 1, 0, none⟩ (.bool true) (by rw [r3]; rfl)
    exact ⟨.bool true, by simp [results, Try.f9, go_sem, hc5], rfl, b_set W3.out (by show w.heap.size ≤ B1 + 1; have := HB1.out; omega) _⟩
  have x3 := X3.out.cell
  have nn := new_ne x3
  have N4 := Lib.hid (Boxed.new w2 3 (.int .i64 0))
  have X4 := Lib.hid (X3.out.alloc (.cells #[.int .i64 0] 3)); have R4 := Lib.hid (R3.out.alloc (.cells #[.int .i64 0] 3)); have W4 := Lib.hid (b_alloc W3.out (.cells #[.int .i64 0] 3))
  have AC := Lib.hid (allC (tv_keep W4.out HV.out) (show n ≤ 1000 by omega))
  obtain ⟨B3, hB3⟩ : ∃ B3, B3 = w2.heap.size := ⟨_, rfl⟩
  have LT : Hid (B1 + 1 < B3 ∧ B1 = w.heap.size) := Lib.hid ⟨by have := R3.out.lt; omega, HB1.out⟩
  rw [World.size_alloc] at AC
  gi_wp2_with fail
  rw [← hB3] at AC N4 nn ⊢
  have HB3 := Lib.hid hB3; clear hB3
  refine ⟨trivial, ?_⟩; refine (callsIn_wide.2 AC.out).mono ?_; rintro e w3 ⟨A, cap, rfl, hbox, htv, hg, hb⟩
  replace hb : Below (w2.alloc (.cells #[.int .i64 0] 3)).heap.size (w2.alloc (.cells #[.int .i64 0] 3)) w3 := by rw [World.size_alloc, ← HB3.out]; exact hb
  have W5 := Lib.hid (b_next W4.out hb); have X5 := Lib.hid (X4.out.kept (grown_of_below hb) (by simp)); have R5 := Lib.hid (R4.out.kept (grown_of_below hb) (by simp)); have N5 := Lib.hid (N4.out.kept (grown_of_below hb) (by simp))
  have ST := Lib.hid (stopsT (n₁ := B3 + 1) 5 (by decide) (Nat.le_refl _) hbox htv hg)
  have L3 : Hid (B3 + 1 < w3.heap.size) := Lib.hid (lt_of_cell hbox)
  clear hbox htv hg hb W4 X4 R4 N4 AC nn x3 r3 rf W3 X3 R3
  gi_wp2_with fail
  obtain ⟨K, hK⟩ : ∃ K, K = cntT T X Y H R B n := ⟨_, rfl⟩
  rw [← hK] at ST
  obtain ⟨ND, hND⟩ : ∃ ND : Fin K → TN, ND = fun x => nodeT T X Y H R B n (T 0 + (x.val : Int)) := ⟨_, rfl⟩
  have HND := Lib.hid hND; clear hND
  have HK := Lib.hid hK; clear hK
  refine wpIn_rangeFunc_ownH rfl (by decide) (gf := 82) (lb := #[.pointer (some ⟨B3 + 1, 0, none⟩)]) rfl trivial (enters_of Try.func82 (by kernel_rfl) rfl)
    ST.out kp_t (kp_b (Nat.le_refl _)) (Below.refl _ _) (fun _ => rfl)
    (fun pre W => ((Boxed W B1 62 (.slice A0 n c0) ∧ Boxed W (B1 + 1) 4 (.bool false)) ∧ (Boxed W B3 3 (.int .i64 (pre.length : Nat)) ∧ ordK pre ∧ w3.heap.size ≤ W.heap.size)) ∧ Below w.heap.size w W)
    (fun c pre W => c = .ret ∧ ¬ ordK pre)
    (OwnFrom.and (OwnFrom.and (OwnFrom.and (Own.from (boxed_own _ _ _) _) (Own.from (boxed_own _ _ _) _)) (OwnFrom.and (Own.from (boxed_own _ _ (fun pre : List (Fin K) => Value.int .i64 (pre.length : Nat))) _) (fun _ _ _ _ h hg _ => ⟨h.1, Nat.le_trans h.2 hg.size⟩))) (ownFrom_below (Nat.le_refl _) W5.out.size))
    (fun c _ _ _ _ h _ _ => h)
    ⟨⟨⟨X5.out, R5.out⟩, N5.out, rfl, Nat.le_refl _⟩, W5.out⟩
    (fun x a' W => ∃ Bx, w3.heap.size ≤ Bx ∧ W.heap[Bx]? = some (.cells #[.int .i64 (ND x).t, .int .i64 (ND x).x, .int .i64 (ND x).y, .int .i64 (ND x).h, .int .i64 (ND x).r, .int .i64 (ND x).b] 70 (0, 0)) ∧ a' = { tmps := #[.slice A0 n c0, .pointer (some ⟨B1, 0, none⟩), .pointer (some ⟨B1 + 1, 0, none⟩), .pointer (some ⟨B3, 0, none⟩), .pointer (some ⟨Bx, 0, none⟩), undef, undef, .bool true, .bool false, .slice A0 n c0, .slice (some ⟨w1.heap.size, 0, none⟩) 1 1, .bool false, .slice A0 n c0, .func (.func 82) #[] #[.pointer (some ⟨B3 + 1, 0, none⟩)], .agg #[.int .i64 (ND x).t, .int .i64 (ND x).x, .int .i64 (ND x).y, .int .i64 (ND x).h, .int .i64 (ND x).r, .int .i64 (ND x).b], undef, undef, undef, undef, undef, undef, undef, undef, undef, undef, undef, undef, undef, undef, undef, undef, undef, undef, undef, undef, undef, undef, undef, undef, undef, undef, undef, undef, undef, undef, undef, undef, undef, undef, undef, undef, undef, undef, undef, undef, undef, undef, undef, undef, undef, undef, undef, undef, undef, undef, undef, undef, undef, undef, undef, undef, undef], defers := [] })
    (fun x a' _ A' B' row h hg hr => by
      obtain ⟨Bx, q1, q2, q3⟩ := h
      refine ⟨Bx, q1, (hg.block Bx (Array.getElem?_eq_some_iff.1 q2).1 fun e => ?_).trans q2, q3⟩
      obtain ⟨-, o, ho, hc⟩ := hr Bx e.symm
      rw [q2] at ho; cases ho; cases hc)
    ?assign ?body ?done ?stop
  case assign =>
    rintro l pre x W K2 ⟨⟨⟨b1, b2⟩, b3, b4, hsz⟩, hB⟩ hK2
    have hxe : encF T X Y H R B n K x = #[.agg #[.int .i64 (ND x).t, .int .i64 (ND x).x, .int .i64 (ND x).y, .int .i64 (ND x).h, .int .i64 (ND x).r, .int .i64 (ND x).b]] := by rw [HND.out]; rfl
    rw [hxe]
    gi_wp2
    exact hK2 _ _ ((KeepsOthers.alloc _ _).from _) (kp_below ((Below.refl _ W).alloc hsz _)) ⟨⟨⟨b1.alloc _, b2.alloc _⟩, b3.alloc _, b4, by rw [World.size_alloc]; omega⟩, hB.alloc hB.size _⟩ ⟨W.heap.size, hsz, World.alloc_heap_new W _, rfl⟩
  case body =>
    rintro l pre x a' W hl ⟨r, hr⟩ ⟨⟨⟨b1, b2⟩, b3, hord, hsz⟩, hB⟩ ⟨Bx, hBx, hblk, rfl⟩ hlt
    have hp : tok T X Y H R B n := (tck_zero n).1 (Classical.byContradiction fun h => by
      have := HK.out; unfold cntT at this; rw [if_neg h] at this; omega)
    have hKv : (K : Int) = T (n - 1) + 1 - T 0 := by
      have := HK.out; unfold cntT at this; rw [if_pos ((tck_zero n).2 hp)] at this
      have := tok_le hp (show 0 ≤ n - 1 by omega) (show n - 1 < n by have := hp.pos; omega)
      omega
    have xlt := x.isLt
    have t0 := hp.time 0 hp.pos
    have tn := hp.time (n - 1) (by have := hp.pos; omega)
    have AT : Hid (Calls Try.prog 35 #[.slice A0 n c0, .int .i64 (ND x).t] W fun e w' => e = .returned (.tuple #[.agg #[.int .i64 (ND x).t, .int .i64 (ND x).x, .int .i64 (ND x).y, .int .i64 (ND x).h, .int .i64 (ND x).r, .int .i64 (ND x).b], .int .i64 0]) ∧ Below W.heap.size W w') := Lib.hid (by
      have q := tAt_ok (tv_keep hB HV.out) (t := T 0 + (x.val : Int)) (tatE_ok hp (by omega) (by omega)) (segI_spec hp.pos (by omega))
      rw [HND.out]; exact q)
    have HNT : Hid ((ND x).t = T 0 + (x.val : Int)) := Lib.hid (by rw [HND.out]; rfl)
    have T0c : ∃ bb oo, A0 = some ⟨bb, oo, none⟩ ∧ W.cell? ⟨bb, oo, none⟩ = some (.int .i64 (T 0)) := by
      rcases tv_keep hB HV.out with ⟨h, -⟩ | ⟨-, bb, oo, cc, e, -, -, h3⟩
      · have := hp.pos; omega
      · injection e with e1
        have q := (h3 0 hp.pos).1.1
        rw [Nat.zero_mul, Nat.add_zero] at q
        exact ⟨bb, oo, e1, q⟩
    obtain ⟨bb, oo, rfl, t0c⟩ := T0c
    have hn0 := hp.pos
    generalize (ND x).t = nt at *
    generalize (ND x).x = nx at *
    generalize (ND x).y = ny at *
    generalize (ND x).h = nh at *
    generalize (ND x).r = nr at *
    generalize (ND x).b = nb at *
    have d0 : W.cell? ⟨Bx, 0, none⟩ = some (.int .i64 nt) := by simp [World.cell?, hblk]
    have d1 : W.cell? ⟨Bx, 1, none⟩ = some (.int .i64 nx) := by simp [World.cell?, hblk]
    have d2 : W.cell? ⟨Bx, 2, none⟩ = some (.int .i64 ny) := by simp [World.cell?, hblk]
    have d3 : W.cell? ⟨Bx, 3, none⟩ = some (.int .i64 nh) := by simp [World.cell?, hblk]
    have d4 : W.cell? ⟨Bx, 4, none⟩ = some (.int .i64 nr) := by simp [World.cell?, hblk]
    have d5 : W.cell? ⟨Bx, 5, none⟩ = some (.int .i64 nb) := by simp [World.cell?, hblk]
    have x1 := b1.cell
    gi_wp2_with fail
    refine ⟨trivial, ?_⟩; refine (CallsIn.inRound l (callsIn_wide.2 AT.out)).mono ?_; rintro e w4 ⟨rfl, hb⟩
    have D0 := keep hb d0; have D1 := keep hb d1; have D2 := keep hb d2; have D3 := keep hb d3; have D4 := keep hb d4; have D5 := keep hb d5
    have Y1 := b1.kept (grown_of_below hb) (by simp); have Y2 := b2.kept (grown_of_below hb) (by simp); have Y3 := b3.kept (grown_of_below hb) (by simp)
    have T4 := keep hb t0c
    have x1' := Y1.cell; have x3' := Y3.cell
    clear d0 d1 d2 d3 d4 d5 x1 t0c
    have CN : Hid (∀ j, j < 6 → (w4.alloc (.cells #[.int .i64 nt, .int .i64 nx, .int .i64 ny, .int .i64 nh, .int .i64 nr, .int .i64 nb] 70)).cell? ⟨w4.heap.size, j, none⟩ = some (.int .i64 (if j = 0 then nt else if j = 1 then nx else if j = 2 then ny else if j = 3 then nh else if j = 4 then nr else nb))) := Lib.hid fun j hj => by
      rcases (show j = 0 ∨ j = 1 ∨ j = 2 ∨ j = 3 ∨ j = 4 ∨ j = 5 by omega) with rfl | rfl | rfl | rfl | rfl | rfl <;> simp
    have BA := b_alloc (Below.refl w4.heap.size w4) (.cells #[.int .i64 nt, .int .i64 nx, .int .i64 ny, .int .i64 nh, .int .i64 nr, .int .i64 nb] 70)
    have BW := Lib.hid (b_next hb BA)
    have G0 := keep BA D0; have G1 := keep BA D1; have G2 := keep BA D2; have G3 := keep BA D3; have G4 := keep BA D4; have G5 := keep BA D5
    have Z1 := Y1.alloc (.cells #[.int .i64 nt, .int .i64 nx, .int .i64 ny, .int .i64 nh, .int .i64 nr, .int .i64 nb] 70); have Z2 := Y2.alloc (.cells #[.int .i64 nt, .int .i64 nx, .int .i64 ny, .int .i64 nh, .int .i64 nr, .int .i64 nb] 70); have Z3 := Y3.alloc (.cells #[.int .i64 nt, .int .i64 nx, .int .i64 ny, .int .i64 nh, .int .i64 nr, .int .i64 nb] 70)
    have U4 := keep BA T4
    have HG := Lib.hid (And.intro G0 (And.intro G1 (And.intro G2 (And.intro G3 (And.intro G4 G5))))); have HZ := Lib.hid (And.intro Z1 (And.intro Z2 Z3)); have HU := Lib.hid U4
    clear D0 D1 D2 D3 D4 D5 Y1 Y2 Y3 T4 x1' x3' BA G0 G1 G2 G3 G4 G5 Z1 Z2 Z3 U4 hb hblk hr b1 b2 b3
    obtain ⟨b5, hb5⟩ : ∃ b5, b5 = w4.heap.size := ⟨_, rfl⟩
    gi_wp2_with fail
    rw [← hb5] at CN ⊢
    clear hb5
    generalize w4.alloc (.cells #[.int .i64 nt, .int .i64 nx, .int .i64 ny, .int .i64 nh, .int .i64 nr, .int .i64 nb] 70) = w5 at *
    obtain ⟨g0, g1, g2, g3, g4, g5⟩ := HG.out
    obtain ⟨Z1, Z2, Z3⟩ := HZ.out
    have z1 := Z1.cell; have z3 := Z3.cell
    have u4 := HU.out
    have e0 := CN.out 0 (by decide); have e1 := CN.out 1 (by decide); have e2 := CN.out 2 (by decide); have e3 := CN.out 3 (by decide); have e4 := CN.out 4 (by decide); have e5 := CN.out 5 (by decide)
    simp only [Nat.one_ne_zero, if_false, if_true, Nat.reduceEqDiff] at e0 e1 e2 e3 e4 e5
    have h01 : ((0 : Int) != 0) = false := rfl
    have hn0' : ¬ (n : Int) = 0 := by omega
    have hn0'' : ((n : Int) == 0) = false := by simpa using hn0'
    have hn1' : (0 : Int) < (n : Int) := by omega
    have hpl : pre.length ≤ 200001 := by omega
    by_cases hx : x.val = pre.length
    · have hadd : IntKind.i64.wrap (T 0 + (pre.length : Int)) = nt := by rw [IntWalk.i64_in _ (by omega), HNT.out, hx]
      refine d_region_in (by kernel_rfl) (by kernel_rfl) (by kernel_rfl) ?_
      repeat
        first
          | (refine d_plain (by with_reducible rfl) ?_; apply Exists.intro; refine ⟨fun wq hc hq => ?_, ?_⟩)
          | (refine d_on (by with_reducible rfl) (by rfl) (by with_reducible rfl) ?_; apply Exists.intro; refine ⟨fun wq hc hq => ?_, ?_⟩)
          | (refine d_off (by with_reducible rfl) (by rfl) (by rfl) ?_)
          | (refine d_void (by with_reducible rfl) (by rfl) ?_)
        try any_goals
          (have q0 := keep hq g0; have q1 := keep hq g1; have q2 := keep hq g2; have q3 := keep hq g3; have q4 := keep hq g4; have q5 := keep hq g5; have y1 := keep hq z1; have y3 := keep hq z3; have v4 := keep hq u4; have p0 := keep hq e0; have p1 := keep hq e1; have p2 := keep hq e2; have p3 := keep hq e3; have p4 := keep hq e4; have p5 := keep hq e5; clear hc
           go_simp
           first
             | rfl)
        simp only [Act.put, List.setIfInBounds_toArray, List.set_cons_zero, List.set_cons_succ]
      refine d_nil ?_
      intro w6 hb6
      have V1 := Z1.kept (grown_of_below hb6) (by simp); have V2 := Z2.kept (grown_of_below hb6) (by simp); have V3 := Z3.kept (grown_of_below hb6) (by simp)
      have B6 := Lib.hid (b_next BW.out hb6)
      have v3 := V3.cell; have f3 := V3.frozen
      clear hb6 g0 g1 g2 g3 g4 g5 z1 z3 u4 e0 e1 e2 e3 e4 e5 hadd
      gi_wp2_with fail
      have hlen : (pre ++ [x]).length = pre.length + 1 := by rw [List.length_append]; rfl
      refine ⟨((ko_below B6.out).trans (KeepsOthers.setCell _ _ _)).from _, kp_t (kp_small B6.out hsz) (kp_set (by omega) _), ⟨⟨V1.other (by have := LT.out; omega) _, V2.other (by have := LT.out; omega) _⟩, ?_, ?_, ?_⟩, b_set (b_next hB B6.out) (by show w.heap.size ≤ B3; have := LT.out; omega) _⟩
      · rw [hlen]; exact V3.set _
      · unfold ordK at hord ⊢
        rw [hlen, List.map_append, hord, List.range_succ]
        show _ ++ [x.val] = _
        rw [hx]
      · exact Nat.le_trans hsz (by rw [size_set]; exact B6.out.size)
    · obtain ⟨SS, hSS⟩ : ∃ SS, SS = T 0 + (pre.length : Int) := ⟨_, rfl⟩
      have hadd : IntKind.i64.wrap (T 0 + (pre.length : Int)) = SS := by rw [IntWalk.i64_in _ (by omega), hSS]
      have hne : nt ≠ SS := by rw [HNT.out, hSS]; omega
      have hne1 : (nt != SS) = true := by simpa using hne
      have hne2 : (nt == SS) = false := by simpa using hne
      clear hSS
      refine d_region_in (by kernel_rfl) (by kernel_rfl) (by kernel_rfl) ?_
      repeat
        first
          | (refine d_plain (by with_reducible rfl) ?_; apply Exists.intro; refine ⟨fun wq hc hq => ?_, ?_⟩)
          | (refine d_on (by with_reducible rfl) (by rfl) (by with_reducible rfl) ?_; apply Exists.intro; refine ⟨fun wq hc hq => ?_, ?_⟩)
          | (refine d_off (by with_reducible rfl) (by rfl) (by rfl) ?_)
          | (refine d_void (by with_reducible rfl) (by rfl) ?_)
        try any_goals
          (have q0 := keep hq g0; have q1 := keep hq g1; have q2 := keep hq g2; have q3 := keep hq g3; have q4 := keep hq g4; have q5 := keep hq g5; have y1 := keep hq z1; have y3 := keep hq z3; have v4 := keep hq u4; have p0 := keep hq e0; have p1 := keep hq e1; have p2 := keep hq e2; have p3 := keep hq e3; have p4 := keep hq e4; have p5 := keep hq e5; clear hc
           go_simp
           first
             | rfl)
        simp only [Act.put, List.setIfInBounds_toArray, List.set_cons_zero, List.set_cons_succ]
      refine d_nil ?_
      intro w6 hb6
      have V2 := Z2.kept (grown_of_below hb6) (by simp)
      have B6 := Lib.hid (b_next BW.out hb6)
      have v2 := V2.cell; have f2 := V2.frozen
      clear hb6 g0 g1 g2 g3 g4 g5 z1 z3 u4 e0 e1 e2 e3 e4 e5 hadd hne1 hne2
      gi_wp2_with fail
      refine ⟨((ko_below B6.out).trans (KeepsOthers.setCell _ _ _)).from _, rfl, fun h => hx ?_⟩
      unfold ordK at hord h
      rw [List.map_append, hord, List.length_append] at h
      have e := congrArg (fun l => l[pre.length]?) h
      simpa using e
  case done =>
    rintro D xs W hD ⟨ho, hlen⟩ ⟨⟨⟨b1, b2⟩, b3, hord, hsz⟩, hB⟩ hKd
    rw [hlen] at b3
    have CK := Lib.hid (checkC (tv_keep hB HV.out))
    have x1 := b1.cell
    gi_wp2_with fail
    refine ⟨trivial, ?_⟩; refine (callsIn_wide.2 (CK.out _ (Below.refl _ _))).mono ?_; rintro e w4 ⟨rfl, hb⟩
    have Y1 := b1.kept (grown_of_below hb) (by simp); have Y2 := b2.kept (grown_of_below hb) (by simp); have Y3 := b3.kept (grown_of_below hb) (by simp)
    have hK4 : w4.heap[D]? = some (.deferred (some [])) := (hb.block D (Array.getElem?_eq_some_iff.1 hKd).1).trans hKd
    have B4 := Lib.hid (b_next hB hb)
    have y1 := Y1.cell; have y2 := Y2.cell; have f2 := Y2.frozen; have y3 := Y3.cell
    clear hb x1
    by_cases hE : tck T X Y H R B n = 0
    · have hp := (tck_zero n).1 hE
      have t0 := hp.time 0 hp.pos
      have tn := hp.time (n - 1) (by have := hp.pos; omega)
      have hKv : (K : Int) = T (n - 1) - T 0 + 1 := by
        have := HK.out; unfold cntT at this; rw [if_pos hE] at this
        have := tok_le hp (show 0 ≤ n - 1 by omega) (show n - 1 < n by have := hp.pos; omega)
        omega
      have T0c : ∃ bb oo, A0 = some ⟨bb, oo, none⟩ ∧ w4.cell? ⟨bb, oo, none⟩ = some (.int .i64 (T 0)) ∧ w4.cell? ⟨bb, oo + (n - 1) * 6, none⟩ = some (.int .i64 (T (n - 1))) := by
        rcases tv_keep B4.out HV.out with ⟨h, -⟩ | ⟨-, bb, oo, cc, e, -, -, h3⟩
        · have := hp.pos; omega
        · injection e with e1
          have q := (h3 0 hp.pos).1.1
          rw [Nat.zero_mul, Nat.add_zero] at q
          exact ⟨bb, oo, e1, q, (h3 (n - 1) (by have := hp.pos; omega)).1.1⟩
      obtain ⟨bb, oo, rfl, q0, q1⟩ := T0c
      have hn0 := hp.pos
      obtain ⟨P, hP⟩ : ∃ P, P = n - 1 := ⟨_, rfl⟩
      rw [← hP] at q1 hKv tn
      have hn0' : (0 : Int) < (n : Int) := by omega
      have hix : (n : Int) - 1 = (P : Int) := by omega
      have hPn : (P : Int) < (n : Int) := by omega
      have hwn : IntKind.i64.wrap (P : Int) = (P : Int) := IntWalk.i64_in _ (by omega)
      have hw1 : IntKind.i64.wrap (T P - T 0) = T P - T 0 := IntWalk.i64_in _ (by omega)
      have hw2 : IntKind.i64.wrap (T P - T 0 + 1) = (K : Int) := by rw [IntWalk.i64_in _ (by omega), hKv]
      rw [hE]
      clear hP hp hKv
      gi_wp2_with fail
      refine wpIn_wide.2 ?_
      refine Tail.tail_region (by kernel_rfl) (by kernel_rfl) ?_
      apply Tail.Gq.r
      · intro wq hc hq
        (have l0 := keep (cls hq) y1; have l1 := keep (cls hq) y3; have l2 := keep (cls hq) q0; have l3 := keep (cls hq) q1; clear hc; go_simp; first | exact q2_value | exact q2_skip)
      simp only [Act.put, List.setIfInBounds_toArray, List.set_cons_zero, List.set_cons_succ]
      apply Tail.Gq.r
      · intro wq hc hq
        (have l0 := keep (cls hq) y1; have l1 := keep (cls hq) y3; have l2 := keep (cls hq) q0; have l3 := keep (cls hq) q1; clear hc; go_simp; first | exact q2_value | exact q2_skip)
      simp only [Act.put, List.setIfInBounds_toArray, List.set_cons_zero, List.set_cons_succ]
      apply Tail.Gq.r
      · intro wq hc hq
        (have l0 := keep (cls hq) y1; have l1 := keep (cls hq) y3; have l2 := keep (cls hq) q0; have l3 := keep (cls hq) q1; clear hc; go_simp; first | exact q2_value | exact q2_skip)
      simp only [Act.put, List.setIfInBounds_toArray, List.set_cons_zero, List.set_cons_succ]
      apply Tail.Gq.p
      · intro wq
        (go_simp; first | exact Tail.pv_value | exact Tail.pv_skip)
      simp only [Act.put, List.setIfInBounds_toArray, List.set_cons_zero, List.set_cons_succ]
      apply Tail.Gq.p
      · intro wq
        (go_simp; first | exact Tail.pv_value | exact Tail.pv_skip)
      simp only [Act.put, List.setIfInBounds_toArray, List.set_cons_zero, List.set_cons_succ]
      apply Tail.Gq.p
      · intro wq
        (go_simp; first | exact Tail.pv_value | exact Tail.pv_skip)
      simp only [Act.put, List.setIfInBounds_toArray, List.set_cons_zero, List.set_cons_succ]
      apply Tail.Gq.p
      · intro wq
        (go_simp; first | exact Tail.pv_value | exact Tail.pv_skip)
      simp only [Act.put, List.setIfInBounds_toArray, List.set_cons_zero, List.set_cons_succ]
      apply Tail.Gq.p
      · intro wq
        (go_simp; first | exact Tail.pv_value | exact Tail.pv_skip)
      simp only [Act.put, List.setIfInBounds_toArray, List.set_cons_zero, List.set_cons_succ]
      apply Tail.Gq.r
      · intro wq hc hq
        (have l0 := keep (cls hq) y1; have l1 := keep (cls hq) y3; have l2 := keep (cls hq) q0; have l3 := keep (cls hq) q1; clear hc; go_simp; first | exact q2_value | exact q2_skip)
      simp only [Act.put, List.setIfInBounds_toArray, List.set_cons_zero, List.set_cons_succ]
      apply Tail.Gq.r
      · intro wq hc hq
        (have l0 := keep (cls hq) y1; have l1 := keep (cls hq) y3; have l2 := keep (cls hq) q0; have l3 := keep (cls hq) q1; clear hc; go_simp; first | exact q2_value | exact q2_skip)
      simp only [Act.put, List.setIfInBounds_toArray, List.set_cons_zero, List.set_cons_succ]
      apply Tail.Gq.p
      · intro wq
        (go_simp; first | exact Tail.pv_value | exact Tail.pv_skip)
      simp only [Act.put, List.setIfInBounds_toArray, List.set_cons_zero, List.set_cons_succ]
      apply Tail.Gq.p
      · intro wq
        (go_simp; first | exact Tail.pv_value | exact Tail.pv_skip)
      simp only [Act.put, List.setIfInBounds_toArray, List.set_cons_zero, List.set_cons_succ]
      apply Tail.Gq.p
      · intro wq
        (go_simp; first | exact Tail.pv_value | exact Tail.pv_skip)
      simp only [Act.put, List.setIfInBounds_toArray, List.set_cons_zero, List.set_cons_succ]
      apply Tail.Gq.r
      · intro wq hc hq
        (have l0 := keep (cls hq) y1; have l1 := keep (cls hq) y3; have l2 := keep (cls hq) q0; have l3 := keep (cls hq) q1; clear hc; go_simp; first | exact q2_value | exact q2_skip)
      simp only [Act.put, List.setIfInBounds_toArray, List.set_cons_zero, List.set_cons_succ]
      apply Tail.Gq.p
      · intro wq
        (go_simp; first | exact Tail.pv_value | exact Tail.pv_skip)
      simp only [Act.put, List.setIfInBounds_toArray, List.set_cons_zero, List.set_cons_succ]
      apply Tail.Gq.p
      · intro wq
        (go_simp; first | exact Tail.pv_value | exact Tail.pv_skip)
      simp only [Act.put, List.setIfInBounds_toArray, List.set_cons_zero, List.set_cons_succ]
      apply Tail.Gq.p
      · intro wq
        (go_simp; first | exact Tail.pv_value | exact Tail.pv_skip)
      simp only [Act.put, List.setIfInBounds_toArray, List.set_cons_zero, List.set_cons_succ]
      apply Tail.Gq.t
      refine Tail.Gq.nil ⟨by kernel_rfl, fun w5 hb5 => ?_⟩
      simp only [List.reverse_cons, List.reverse_nil, List.nil_append]
      have W5' := Y2.kept (grown_of_below hb5) (by simp)
      have z2 := W5'.cell; have g2 := W5'.frozen
      have hK5 : w5.heap[D]? = some (.deferred (some [])) := (hb5.block D (Array.getElem?_eq_some_iff.1 hK4).1).trans hK4
      have B5 := Lib.hid (b_next B4.out hb5); clear hb5
      go_wp2_with fail
      try simp only [Kit.Ends]
      gi_wp2_with fail
      have hK' := (KeepsOthers.setCell w5 ⟨B1 + 1, 0, none⟩ (.bool true)).same D _ hK5 rfl
      refine ⟨by simp, .inl ⟨_, _, rfl, run_takeDeferred hK', ?_⟩⟩
      have hc5 := cell_kept (World.cell?_setCell_same' w5 ⟨B1 + 1, 0, none⟩ (.bool true) (by rw [z2]; rfl)) (grownBy_putObj' _ D (.deferred none)) (fun r e => by cases e; exact ⟨_, hK', rfl⟩)
      refine ⟨.bool true, ?_, rfl, (b_set B5.out (by show w.heap.size ≤ B1 + 1; have := LT.out; omega) _).trans (belowK_b (w := w) (Nat.le_refl _) _ D _ _ (by have := W5.out.size; omega) hK' rfl rfl)⟩
      simp [results, Try.f9, go_sem, hc5]
    · have hK0 : K = 0 := by have := HK.out; unfold cntT at this; rw [if_neg hE] at this; exact this
      have h1 : (tck T X Y H R B n != 0) = true := by simpa using hE
      have h2 : (tck T X Y H R B n == 0) = false := by simpa using hE
      subst hK0
      gi_wp2_with fail
      have hK' := (KeepsOthers.setCell w4 ⟨B1 + 1, 0, none⟩ (.bool true)).same D _ hK4 rfl
      refine ⟨by simp, .inl ⟨_, _, rfl, run_takeDeferred hK', ?_⟩⟩
      have hc5 := cell_kept (World.cell?_setCell_same' w4 ⟨B1 + 1, 0, none⟩ (.bool true) (by rw [y2]; rfl)) (grownBy_putObj' _ D (.deferred none)) (fun r e => by cases e; exact ⟨_, hK', rfl⟩)
      refine ⟨.bool true, ?_, rfl, (b_set B4.out (by show w.heap.size ≤ B1 + 1; have := LT.out; omega) _).trans (belowK_b (w := w) (Nat.le_refl _) _ D _ _ (by have := W5.out.size; omega) hK' rfl rfl)⟩
      simp [results, Try.f9, go_sem, hc5]
  case stop =>
    rintro D c pre W _ hpre ⟨rfl, hno⟩ _
    exact absurd hpre hno
theorem walk (l : Value) (W : World) (h_l : Frame.Okc W (.sl [.int, .int, .int, .int, .int, .int]) l) :
    Calls Try.prog 9 #[l] W fun e w' => e = .returned (.bool true) ∧ Below W.heap.size W w' := by
  obtain ⟨n, T, X, Y, H, R, B, hv⟩ := tv_of h_l
  have hv' := hv
  obtain ⟨A, c, rfl, h1, h2⟩ := tv_slice hv
  exact core A n c T X Y H R B W (Nat.le_trans h2 (by decide)) h1 (Lib.hid hv')
-- FRAME --

set_option maxRecDepth 100000 in
theorem lifted (os : Os) (started : os.Started) (H : Type) (enc : TypeId × Value → H) :
    ReturnsInHanded {} Try.checked os 9 .any (Rows.tubeAllSpec.pre6 enc Try.prog Try.f9 Rows.tubeAllRow.domain false) (Rows.tubeAllSpec.post enc Try.prog Try.f9 false true false false) :=
  Frame.lifted (C := Try.checked) 9 Try.f9 Try.own started (by kernel_rfl) Try.func9 Try.laidOut rfl (by kernel_rfl) 4 rfl Try.underlying4
      (fun ds h => by match ds, h with | [_], _ => rfl)
      (ChangeSpec.witness6 (enc := enc) (C := Try.checked) false ⟨#[], #[.slice none 0 0], []⟩ 8 (by kernel_rfl) (by kernel_rfl) (by kernel_rfl) (by kernel_rfl))
      (fun W base args ds ps hval0 hA _ => by
        have hval : ∀ (j : Nat) t v, Try.f9.params[j]? = some t → args[j]? = some v → Value.okWide Try.prog W .any base t v := hval0
        have hA' : DataW.TrodAll enc Try.prog W 0 (fun _ => true) true Try.f9.params.toList args.toList ds ps := hA
        clear hval0 hA
        have hA := hA'
        clear hA'
        rw [Try.params9] at hA hval
        obtain ⟨v0, vs0, d0, ds0, p0, q0, ea, rfl, rfl, tr0, rest0⟩ := trodAll_cons hA
        obtain ⟨rfl, rfl, rfl⟩ := trodAll_nil rest0
        obtain rfl : args = #[v0] := by cases args; simp_all
        clear ea
        have sl_l : Frame.Okc W (.sl [.int, .int, .int, .int, .int, .int]) v0 := by obtain ⟨a, l, c, e⟩ := okWide_slice Try.underlying62 (hval 0 _ v0 rfl rfl); exact Frame.arg_cell (k := 8) (by kernel_rfl) (by have e2 : v0 = .slice a l c := e; rw [e2]; rfl) tr0
        exact walk v0 W sl_l)

/-- The statement. -/
theorem proved : Rows.TubeAllSaid :=
  OpenClaim.holds_of_wide 9 Try.f9 rfl rfl rfl rfl rfl rfl rfl ⟨rfl, rfl, rfl, rfl, rfl⟩ rfl rfl rfl rfl rfl (by kernel_rfl) Try.func9 (by kernel_rfl)
    (of_decide_eq_true (by kernel_rfl)) (by unfold Func.isWrapper; first | (rw [if_pos (by decide +kernel)]; kernel_rfl) | (rw [if_neg (by decide +kernel)]; exact ⟨rfl, rfl⟩))
    (fun os started H enc _ => lifted os started H enc)
#print axioms proved
end TubeAll
end Go.Proofs.Yteaccanhahmclaa

