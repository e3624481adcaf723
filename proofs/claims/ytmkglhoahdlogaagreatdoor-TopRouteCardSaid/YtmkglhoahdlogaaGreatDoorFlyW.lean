/- FlyW. -/
import Derived.Test.YtmkglhoahdlogaaGreatDoorJ12
import Derived.Test.YtmkglhoahdlogaaGreatDoorJ08
import Derived.Test.YtmkglhoahdlogaaGreatDoorJ03
import Derived.Deep.DeepCutAuto
namespace Go.Proofs.YtmkglhoahdlogaaGreatDoor
open Go.RowKit
namespace Fly
open Kit Plane Chart Num Path
set_option maxRecDepth 100000 in
set_option maxHeartbeats 8000000 in
theorem path_bad (cl kd fr t ks : ByteArray) (off sp h kw ceil climb desc slow fast : Int) (A2 A3 : Option Addr) (n2 c2 n3 c3 : Nat) (A : Option Addr) (n c : Nat) (E : Int) (w : World) (_hE1 : (E == 0) = false) (hE2 : (E != 0) = true) (CK : Hid (∀ w1, Below w.heap.size w w1 → Calls Tryz.prog 55 #[.slice A n c, Plan.plan cl kd fr t off sp h (.slice A2 n2 c2), .agg #[.string ks, .int .i64 kw, .int .i64 ceil, .int .i64 climb, .int .i64 desc, .int .i64 slow, .int .i64 fast], .slice A3 n3 c3] w1 fun e w' => e = .returned (.int .i64 E) ∧ Below w1.heap.size w1 w')) :
    Calls Tryz.prog 30 #[.slice A n c, Plan.plan cl kd fr t off sp h (.slice A2 n2 c2), .agg #[.string ks, .int .i64 kw, .int .i64 ceil, .int .i64 climb, .int .i64 desc, .int .i64 slow, .int .i64 fast], .slice A3 n3 c3] w fun e w' => e = .returned (.tuple #[.slice none 0 0, .int .i64 E]) ∧ Below w.heap.size w w' := by
  have n8 := Plan.n8_new w 24 cl kd fr t off sp h (.slice A2 n2 c2)
  have N0 : Hid (Plan.N8 ((w.alloc (.cells #[.string cl, .string kd, .string fr, .string t, .int .i64 off, .int .i64 sp, .int .i64 h, .slice A2 n2 c2] 24)).alloc (.cells #[.string ks, .int .i64 kw, .int .i64 ceil, .int .i64 climb, .int .i64 desc, .int .i64 slow, .int .i64 fast] 52)) w.heap.size cl kd fr t off sp h (.slice A2 n2 c2)) := Lib.hid (Plan.n8_keep (b_alloc (Below.refl _ _) _) n8)
  have k7 := Kind.k7_new (w.alloc (.cells #[.string cl, .string kd, .string fr, .string t, .int .i64 off, .int .i64 sp, .int .i64 h, .slice A2 n2 c2] 24)) 52 ks kw ceil climb desc slow fast
  rw [World.size_alloc] at k7
  have K0 := Lib.hid k7
  have W0 := Lib.hid (b_alloc (b_alloc (Below.refl w.heap.size w) (.cells #[.string cl, .string kd, .string fr, .string t, .int .i64 off, .int .i64 sp, .int .i64 h, .slice A2 n2 c2] 24)) (.cells #[.string ks, .int .i64 kw, .int .i64 ceil, .int .i64 climb, .int .i64 desc, .int .i64 slow, .int .i64 fast] 52))
  clear n8 k7
  go_enter Tryz.func30, Tryz.ntmps30
  obtain ⟨x0, x1, x2, x3, x4, x5, x6, x7⟩ := N0.out
  obtain ⟨y0, y1, y2, y3, y4, y5, y6⟩ := K0.out
  go_wp2_with fail
  (with_reducible refine (CK.out _ W0.out).mono ?_); rintro e w1 ⟨rfl, hb⟩
  have W1 := Lib.hid (b_next W0.out hb); have N1 := Lib.hid (Plan.n8_keep hb N0.out); have K1 := Lib.hid (Kind.k7_keep hb K0.out); clear hb x0 x1 x2 x3 x4 x5 x6 x7 y0 y1 y2 y3 y4 y5 y6
  go_wp2_with fail
  refine bodyPost_ret (v := .tuple #[.slice none 0 0, .int .i64 E]) (by simp [results, Tryz.results30, go_sem]) rfl ⟨rfl, ?_⟩
  exact W1.out
theorem own_lt {w : World} {base g cap : Nat} {E : TypeId} {C n : Nat} {f : Nat → Nat → Int} (h : Own w base E C (.slice (some ⟨g, 0, none⟩) n cap) n f) : g < w.heap.size := by
  rcases h.2 with ⟨e, -⟩ | ⟨g', cap', cur, e, -, hg, -⟩
  · cases e
  · injection e with e1 _ _
    injection e1 with e1
    injection e1 with e1
    subst e1
    rcases Nat.lt_or_ge g w.heap.size with hl | hl
    · exact hl
    · rw [Array.getElem?_eq_none hl] at hg; cases hg
theorem p2_grown {w w' : World} {b : Nat} {x y : Int} {row : Option Nat} (hg : w.grownBy w' row) (h : P2 w b x y) (hne : row ≠ some b) : P2 w' b x y :=
  ⟨(hg.cell_far ⟨b, 0, none⟩ (lt_of_cell h.1) (Ne.symm hne)).trans h.1, (hg.cell_far ⟨b, 1, none⟩ (lt_of_cell h.2) (Ne.symm hne)).trans h.2⟩
theorem blk_b4 {w : World} {b : Nat} {ty : TypeId} {t x y h : Int} (hh : w.heap[b]? = some (.cells #[.int .i64 t, .int .i64 x, .int .i64 y, .int .i64 h] ty (0, 0))) : Path.C4 w b t x y h :=
  ⟨⟨blk_cell hh 0, blk_cell hh 1⟩, ⟨blk_cell hh 2, blk_cell hh 3⟩⟩
/-- What fly.Path answers. -/
def PathPost (en : Int) (n : Nat) (f : Nd) (e : Ending) (w' : World) : Prop :=
  (200000 < en ∧ e = .returned (.tuple #[.slice none 0 0, .int .i64 12])) ∨ (en ≤ 200000 ∧ ∃ v, e = .returned (.tuple #[v, .int .i64 0]) ∧ ∃ base, Own w' base 55 4 v n f)
theorem nd_cells (off : Int) (D X Y : Nat → Int) (k : Nat) : rowL 4 (nd0 off D X Y) k ++ [.int .i64 (tm off D k), .int .i64 (X k), .int .i64 (Y k), .int .i64 0] = rowL 4 (nd0 off D X Y) (k + 1) := rfl
theorem new4 (w : World) (ty : TypeId) (a b c d : Value) : ∀ j u, ([a, b, c, d] : List Value)[j]? = some u → (w.alloc (.cells #[a, b, c, d] ty)).cell? ((⟨w.heap.size, 0, none⟩ : Addr).add j) = some u := fun j u hu => by
  rw [Go.WideShapes.add_plain]
  have hj : j < 4 := (List.getElem?_eq_some_iff.1 hu).1
  rcases (show j = 0 ∨ j = 1 ∨ j = 2 ∨ j = 3 by omega) with rfl | rfl | rfl | rfl <;> simpa using hu
theorem new4_one (a b c d : Int) : ∀ u ∈ ([.int .i64 a, .int .i64 b, .int .i64 c, .int .i64 d] : List Value), u.oneCell' = true := by
  intro u hu; simp only [List.mem_cons, List.not_mem_nil, or_false] at hu; rcases hu with rfl | rfl | rfl | rfl <;> rfl
set_option maxRecDepth 100000 in
set_option maxHeartbeats 8000000 in
theorem path_w (cl kd fr t ks : ByteArray) (off sp h kw ceil climb desc slow fast : Int) (A2 A3 : Option Addr) (n2 c2 n3 c3 : Nat) (A : Option Addr) (n c : Nat) (N : Nat → ByteArray) (X Y Ff D : Nat → Int) (w : World) (h2 : 2 ≤ n) (h62 : n ≤ 62) (bo : 0 ≤ off ∧ off ≤ 200000) (_bh : 1 ≤ h ∧ h ≤ 60000) (_bc : 1 ≤ climb ∧ climb ≤ 200) (_bd : 1 ≤ desc ∧ desc ≤ 200) (CK : Hid (∀ w1, Below w.heap.size w w1 → Calls Tryz.prog 55 #[.slice A n c, Plan.plan cl kd fr t off sp h (.slice A2 n2 c2), .agg #[.string ks, .int .i64 kw, .int .i64 ceil, .int .i64 climb, .int .i64 desc, .int .i64 slow, .int .i64 fast], .slice A3 n3 c3] w1 fun e w' => e = .returned (.int .i64 0) ∧ Below w1.heap.size w1 w'))
    (HV : Hid (FV w (.slice A n c) n N X Y)) (HG : Hid (∀ k, k < n → Plane.good (X k) (Y k))) (HD : Hid (∀ k, k < n → D k ≤ 3000000))
    (LGC : Hid (∀ i, 1 ≤ i → i < n → ∀ w1, Below w.heap.size w w1 → Calls Tryz.prog 56 #[.slice A3 n3 c3, .int .i64 sp, .int .i64 h, .agg #[.int .i64 (X (i - 1)), .int .i64 (Y (i - 1))], .agg #[.int .i64 (X i), .int .i64 (Y i)]] w1 fun e w' => e = .returned (.tuple #[.int .i64 (Ff i), .int .i64 (D i), .int .i64 0]) ∧ Below w1.heap.size w1 w'))
    (UPC : Hid (∀ w1, Calls Tryz.prog 57 #[.int .i64 h, .int .i64 climb] w1 fun e w' => e = .returned (.tuple #[.int .i64 (du h climb), .int .i64 0]) ∧ w1 = w')) (DNC : Hid (∀ w1, Calls Tryz.prog 57 #[.int .i64 h, .int .i64 desc] w1 fun e w' => e = .returned (.tuple #[.int .i64 (du h desc), .int .i64 0]) ∧ w1 = w'))
    (bu : (1 ≤ du h climb ∧ du h climb ≤ 60000) ∧ 1 ≤ du h desc ∧ du h desc ≤ 60000)
    (PRC : Hid (fen off D n ≤ 200000 → ∀ tt, 0 ≤ tt → tt ≤ fen off D n - off → ∀ w1, Calls Tryz.prog 62 #[.agg #[.string ks, .int .i64 kw, .int .i64 ceil, .int .i64 climb, .int .i64 desc, .int .i64 slow, .int .i64 fast], .int .i64 h, .int .i64 (fen off D n - off), .int .i64 tt] w1 fun e w' => e = .returned (.tuple #[.int .i64 (Kind.prof ceil climb desc h (fen off D n - off) tt).1, .int .i64 0]) ∧ Below w1.heap.size w1 w')) :
    Calls Tryz.prog 30 #[.slice A n c, Plan.plan cl kd fr t off sp h (.slice A2 n2 c2), .agg #[.string ks, .int .i64 kw, .int .i64 ceil, .int .i64 climb, .int .i64 desc, .int .i64 slow, .int .i64 fast], .slice A3 n3 c3] w fun e w' => PathPost (fen off D n) (stN off h climb desc D X Y n (stK off h climb desc D n)) (fin off h climb desc ceil (fen off D n - off) (stF off h climb desc D X Y n (stK off h climb desc D n))) e w' ∧ Below w.heap.size w w' := by
  have n8 := Plan.n8_new w 24 cl kd fr t off sp h (.slice A2 n2 c2)
  have N0 : Hid (Plan.N8 ((w.alloc (.cells #[.string cl, .string kd, .string fr, .string t, .int .i64 off, .int .i64 sp, .int .i64 h, .slice A2 n2 c2] 24)).alloc (.cells #[.string ks, .int .i64 kw, .int .i64 ceil, .int .i64 climb, .int .i64 desc, .int .i64 slow, .int .i64 fast] 52)) w.heap.size cl kd fr t off sp h (.slice A2 n2 c2)) := Lib.hid (Plan.n8_keep (b_alloc (Below.refl _ _) _) n8)
  have k7 := Kind.k7_new (w.alloc (.cells #[.string cl, .string kd, .string fr, .string t, .int .i64 off, .int .i64 sp, .int .i64 h, .slice A2 n2 c2] 24)) 52 ks kw ceil climb desc slow fast
  rw [World.size_alloc] at k7
  have K0 := Lib.hid k7
  have W0 := Lib.hid (b_alloc (b_alloc (Below.refl w.heap.size w) (.cells #[.string cl, .string kd, .string fr, .string t, .int .i64 off, .int .i64 sp, .int .i64 h, .slice A2 n2 c2] 24)) (.cells #[.string ks, .int .i64 kw, .int .i64 ceil, .int .i64 climb, .int .i64 desc, .int .i64 slow, .int .i64 fast] 52))
  clear n8 k7
  go_enter Tryz.func30, Tryz.ntmps30
  obtain ⟨x0, x1, x2, x3, x4, x5, x6, x7⟩ := N0.out
  obtain ⟨y0, y1, y2, y3, y4, y5, y6⟩ := K0.out
  go_wp2_with fail
  (with_reducible refine (CK.out _ W0.out).mono ?_); rintro e w1 ⟨rfl, hb⟩
  have W1 := Lib.hid (b_next W0.out hb); have N1 := Lib.hid (Plan.n8_keep hb N0.out); have K1 := Lib.hid (Kind.k7_keep hb K0.out); clear hb x0 x1 x2 x3 x4 x5 x6 x7 y0 y1 y2 y3 y4 y5 y6
  obtain ⟨b, o, c', e, hc1, hc2, h3⟩ := fv_at (fv_keep W1.out HV.out) (by omega)
  injection e with e1 _ e3
  subst e1 e3
  have hc3 : c ≤ 9223372036854775807 := Nat.le_trans hc2 (by decide)
  have H3 := Lib.hid h3
  have l0 := h3 0 (by omega)
  have L0 : Hid (w1.cell? ⟨b, o + 1, none⟩ = some (.int .i64 (X 0)) ∧ w1.cell? ⟨b, o + 2, none⟩ = some (.int .i64 (Y 0))) := Lib.hid ⟨by simpa using l0.c1, by simpa using l0.c2⟩
  clear h3 l0
  have z1 : (0 : Int) < (n : Int) := by omega
  have z2 : 0 < n := by omega
  go_wp2_with fail
  refine Tail.tail_region (by kernel_rfl) (by kernel_rfl) ?_
  apply Tail.Gq.p
  · intro wq
    (go_simp; first | exact Tail.pv_value | exact Tail.pv_skip)
  simp only [Act.put, List.setIfInBounds_toArray, List.set_cons_zero, List.set_cons_succ]
  apply Tail.Gq.r
  · intro wq hc hq
    (have q0 := keep (cls hq) N1.out.c4; have q1 := keep (cls hq) L0.out.1; have q2 := keep (cls hq) L0.out.2; clear hc; go_simp; first | exact q2_value | exact q2_skip)
  simp only [Act.put, List.setIfInBounds_toArray, List.set_cons_zero, List.set_cons_succ]
  apply Tail.Gq.p
  · intro wq
    (go_simp; first | exact Tail.pv_value | exact Tail.pv_skip)
  simp only [Act.put, List.setIfInBounds_toArray, List.set_cons_zero, List.set_cons_succ]
  apply Tail.Gq.p
  · intro wq
    (go_simp; first | exact Tail.pv_value | exact Tail.pv_skip)
  simp only [Act.put, List.setIfInBounds_toArray, List.set_cons_zero, List.set_cons_succ]
  apply Tail.Gq.p
  · intro wq
    (go_simp; first | exact Tail.pv_value | exact Tail.pv_skip)
  simp only [Act.put, List.setIfInBounds_toArray, List.set_cons_zero, List.set_cons_succ]
  apply Tail.Gq.r
  · intro wq hc hq
    (have q0 := keep (cls hq) N1.out.c4; have q1 := keep (cls hq) L0.out.1; have q2 := keep (cls hq) L0.out.2; clear hc; go_simp; first | exact q2_value | exact q2_skip)
  simp only [Act.put, List.setIfInBounds_toArray, List.set_cons_zero, List.set_cons_succ]
  apply Tail.Gq.p
  · intro wq
    (go_simp; first | exact Tail.pv_value | exact Tail.pv_skip)
  simp only [Act.put, List.setIfInBounds_toArray, List.set_cons_zero, List.set_cons_succ]
  apply Tail.Gq.t
  apply Tail.Gq.t
  refine Tail.Gq.nil ⟨by kernel_rfl, fun w2 hb2 => ?_⟩
  simp only [List.reverse_cons, List.reverse_nil, List.nil_append, List.cons_append]
  have W2 := Lib.hid hb2; clear hb2
  have O3 : Hid (Own (w2.alloc (.cells #[.int .i64 off, .int .i64 (X 0), .int .i64 (Y 0), .int .i64 0] 55)) w1.heap.size 55 4 (.slice (some ⟨w2.heap.size, 0, none⟩) 1 1) 1 (nd0 off D X Y)) := Lib.hid (own_made _ W2.out.size (by decide) rfl)
  have B3 := Lib.hid (b_alloc W2.out (.cells #[.int .i64 off, .int .i64 (X 0), .int .i64 (Y 0), .int .i64 0] 55))
  obtain ⟨i0, hi, hz0, hz1, hz2⟩ := info_parts info_node
  have IN := Lib.hid (And.intro hi (And.intro hz0 (And.intro hz1 hz2))); clear hi hz0 hz1 hz2
  go_wp2_with fail
  simp only [Kit.Ends]
  go_wp2_with fail
  go_loopw [11, 12] (fun v s wr => ∃ i : Nat, 1 ≤ i ∧ i ≤ n ∧ s = .int .i64 i ∧ Own wr w1.heap.size 55 4 v i (nd0 off D X Y) ∧ Below w1.heap.size w1 wr) (fun _ s _ => n - (intOf s).toNat)
  case atStart => exact ⟨1, Nat.le_refl _, by omega, rfl, O3.out, B3.out⟩
  case round =>
    obtain ⟨i, hi1, hi, rfl, hown, hbl⟩ := hrel
    have OW := Lib.hid hown; have WR := Lib.hid hbl; have WB := Lib.hid (b_next W1.out hbl); clear hown
    obtain ⟨g, gc, rfl, hg1, hg2, hg3, hg4, hg5⟩ := own_row OW.out (by omega)
    have hg6 : gc ≤ 9223372036854775807 := Nat.le_trans hg4 (by decide)
    by_cases hlt : i < n
    · have hl : (i : Int) < (n : Int) := by omega
      obtain ⟨P, hP⟩ : ∃ P, P = i - 1 := ⟨_, rfl⟩
      have k1 := e3_keep hbl (H3.out i hlt)
      have k2 := e3_keep hbl (H3.out P (by omega))
      have G1 := Lib.hid (And.intro k2.c1 k2.c2); have G2 := Lib.hid (And.intro k1.c1 k1.c2)
      have N3 := Lib.hid (Plan.n8_keep hbl N1.out)
      have LGI' := LGC.out i hi1 hlt
      rw [← hP] at LGI'
      have LGI := Lib.hid LGI'
      have gt0 : wr.cell? ⟨g, P * 4, none⟩ = some (.int .i64 (tm off D P)) := hg5.cell P (by omega) 0 (by decide)
      have GT0 := Lib.hid gt0
      have tb := tm_bd (off := off) HD.out P (by omega)
      have tg := tm_ge (off := off) (D := D) P
      have eTI : tm off D i = tm off D P + max 1 (D i) := by
        obtain ⟨q, rfl⟩ : ∃ q, i = q + 1 := ⟨i - 1, by omega⟩
        rw [hP, Nat.add_sub_cancel]; rfl
      have hDi := HD.out i hlt
      have bP : (P : Int) < (i : Int) := by omega
      have bPn : (P : Int) < (n : Int) := by omega
      have u1' : IntKind.i64.wrap ((i : Int) - 1) = (P : Int) := by rw [IntWalk.i64_in _ (by omega)]; omega
      have hPn : (P : Int) ≤ 61 := by omega
      have RW : Hid (rowL 4 (nd0 off D X Y) i ++ [.int .i64 (tm off D i), .int .i64 (X i), .int .i64 (Y i), .int .i64 0] = rowL 4 (nd0 off D X Y) (i + 1)) := Lib.hid rfl
      obtain ⟨TI, hTI⟩ : ∃ TI, TI = tm off D i := ⟨_, rfl⟩
      rw [← hTI] at RW eTI
      have U := Lib.hid u1'
      clear hbl k1 k2 LGI' gt0 hP hTI hg5 u1'
      generalize tm off D P = tP at *
      generalize X i = xi at *
      generalize Y i = yi at *
      generalize X P = xp at *
      generalize Y P = yp at *
      generalize Ff i = fq at *
      generalize D i = di at *
      have v1' : IntKind.i64.wrap (tP + if 1 < di then di else 1) = TI := by
        have em : (if 1 < di then di else 1) = max 1 di := by split <;> omega
        rw [em, IntWalk.i64_in _ (by omega)]; omega
      have V := Lib.hid v1'
      have HTI := Lib.hid eTI; clear eTI v1'
      have u1 := U.out
      go_wp2_with fail
      refine d_region (by kernel_rfl) (by kernel_rfl) ?_
      repeat
        first
          | (refine d_plain (by with_reducible rfl) ?_; apply Exists.intro; refine ⟨fun wq hc hq => ?_, ?_⟩)
          | (refine d_on (by with_reducible rfl) (by rfl) (by with_reducible rfl) ?_; apply Exists.intro; refine ⟨fun wq hc hq => ?_, ?_⟩)
          | (refine d_off (by with_reducible rfl) (by rfl) (by rfl) ?_)
          | (refine d_void (by with_reducible rfl) (by rfl) ?_)
        try any_goals
          (have q0 := keep (cls hq) N3.out.c5; have q1 := keep (cls hq) N3.out.c6; have q2 := keep (cls hq) G1.out.1; have q3 := keep (cls hq) G1.out.2; have q4 := keep (cls hq) G2.out.1; have q5 := keep (cls hq) G2.out.2; clear hc
           go_simp
           first
             | rfl
             | (go_at_call 56; with_reducible exact call_below hq (LGI.out _ (b_next WB.out (cls hq)))))
        simp only [Act.put, List.setIfInBounds_toArray, List.set_cons_zero, List.set_cons_succ]
      refine d_nil ?_
      intro w4 hb4
      have WR4 := Lib.hid (b_next WR.out hb4); have O4 := Lib.hid (own_keep hb4 OW.out)
      have GT := Lib.hid (keep hb4 GT0.out); have G4 := Lib.hid (And.intro (keep hb4 G2.out.1) (keep hb4 G2.out.2))
      clear hb4
      have v1 := V.out
      go_wp2_with fail
      refine Tail.tail_region (by kernel_rfl) (by kernel_rfl) ?_
      apply Tail.Gq.p
      · intro wq
        (go_simp; first | exact Tail.pv_value | exact Tail.pv_skip)
      simp only [Act.put, List.setIfInBounds_toArray, List.set_cons_zero, List.set_cons_succ]
      apply Tail.Gq.p
      · intro wq
        (go_simp; first | exact Tail.pv_value | exact Tail.pv_skip)
      simp only [Act.put, List.setIfInBounds_toArray, List.set_cons_zero, List.set_cons_succ]
      apply Tail.Gq.p
      · intro wq
        (go_simp; first | exact Tail.pv_value | exact Tail.pv_skip)
      simp only [Act.put, List.setIfInBounds_toArray, List.set_cons_zero, List.set_cons_succ]
      apply Tail.Gq.p
      · intro wq
        (go_simp; first | exact Tail.pv_value | exact Tail.pv_skip)
      simp only [Act.put, List.setIfInBounds_toArray, List.set_cons_zero, List.set_cons_succ]
      apply Tail.Gq.p
      · intro wq
        (go_simp; first | exact Tail.pv_value | exact Tail.pv_skip)
      simp only [Act.put, List.setIfInBounds_toArray, List.set_cons_zero, List.set_cons_succ]
      apply Tail.Gq.p
      · intro wq
        (go_simp; first | exact Tail.pv_value | exact Tail.pv_skip)
      simp only [Act.put, List.setIfInBounds_toArray, List.set_cons_zero, List.set_cons_succ]
      apply Tail.Gq.r
      · intro wq hc hq
        (have q0 := keep (cls hq) GT.out; have q1 := keep (cls hq) G4.out.1; have q2 := keep (cls hq) G4.out.2; clear hc; go_simp; first | exact q2_value | exact q2_skip)
      simp only [Act.put, List.setIfInBounds_toArray, List.set_cons_zero, List.set_cons_succ]
      apply Tail.Gq.p
      · intro wq
        (go_simp; first | exact Tail.pv_value | exact Tail.pv_skip)
      simp only [Act.put, List.setIfInBounds_toArray, List.set_cons_zero, List.set_cons_succ]
      apply Tail.Gq.p
      · intro wq
        (go_simp; first | exact Tail.pv_value | exact Tail.pv_skip)
      simp only [Act.put, List.setIfInBounds_toArray, List.set_cons_zero, List.set_cons_succ]
      apply Tail.Gq.p
      · intro wq
        (go_simp; first | exact Tail.pv_value | exact Tail.pv_skip)
      simp only [Act.put, List.setIfInBounds_toArray, List.set_cons_zero, List.set_cons_succ]
      apply Tail.Gq.p
      · intro wq
        (go_simp; first | exact Tail.pv_value | exact Tail.pv_skip)
      simp only [Act.put, List.setIfInBounds_toArray, List.set_cons_zero, List.set_cons_succ]
      apply Tail.Gq.p
      · intro wq
        (go_simp; first | exact Tail.pv_value | exact Tail.pv_skip)
      simp only [Act.put, List.setIfInBounds_toArray, List.set_cons_zero, List.set_cons_succ]
      apply Tail.Gq.p
      · intro wq
        (go_simp; first | exact Tail.pv_value | exact Tail.pv_skip)
      simp only [Act.put, List.setIfInBounds_toArray, List.set_cons_zero, List.set_cons_succ]
      apply Tail.Gq.p
      · intro wq
        (go_simp; first | exact Tail.pv_value | exact Tail.pv_skip)
      simp only [Act.put, List.setIfInBounds_toArray, List.set_cons_zero, List.set_cons_succ]
      apply Tail.Gq.r
      · intro wq hc hq
        (have q0 := keep (cls hq) GT.out; have q1 := keep (cls hq) G4.out.1; have q2 := keep (cls hq) G4.out.2; clear hc; go_simp; first | exact q2_value | exact q2_skip)
      simp only [Act.put, List.setIfInBounds_toArray, List.set_cons_zero, List.set_cons_succ]
      apply Tail.Gq.p
      · intro wq
        (go_simp; first | exact Tail.pv_value | exact Tail.pv_skip)
      simp only [Act.put, List.setIfInBounds_toArray, List.set_cons_zero, List.set_cons_succ]
      apply Tail.Gq.t
      apply Tail.Gq.t
      apply Tail.Gq.t
      refine Tail.Gq.nil ⟨by kernel_rfl, fun w5 hb5 => ?_⟩
      simp only [List.reverse_cons, List.reverse_nil, List.nil_append, List.cons_append]
      clear u1 v1 V
      generalize (if 1 < di then di else 1) = mm at *
      have WR5 := Lib.hid (b_next WR4.out hb5); have O5 := Lib.hid (own_keep (b_alloc hb5 (.cells #[.int .i64 TI, .int .i64 xi, .int .i64 yi, .int .i64 0] 55)) O4.out)
      have WA := Lib.hid (b_alloc WR5.out (.cells #[.int .i64 TI, .int .i64 xi, .int .i64 yi, .int .i64 0] 55))
      have NW := Lib.hid (new4 w5 55 (.int .i64 TI) (.int .i64 xi) (.int .i64 yi) (.int .i64 0))
      clear hb5
      go_wp2_with (at_builtin; refine wpList_append_own _ rfl (.tmp 76) (.tmp 92) 45 rfl w1.heap.size 55 i0 _ 4 32 Tryz.underlying45 IN.out.1 IN.out.2.1 IN.out.2.2.1 IN.out.2.2.2 rfl (by decide) _ i _ rfl O5.out ⟨w5.heap.size, 0, none⟩ 1 1 [.int .i64 TI, .int .i64 xi, .int .i64 yi, .int .i64 0] rfl rfl NW.out (new4_one _ _ _ _) (by unfold maxLen; omega) (by omega) WA.out.size ?_; intro v2 w6 hown1' hg1' hnil1; have hown1 := Lib.hid hown1'; have hg1 := Lib.hid hg1'; clear hnil1 hown1' hg1')
      have O6 : Hid (Own w6 w1.heap.size 55 4 v2 (i + 1) (nd0 off D X Y)) := Lib.hid (by have q := hown1.out; rw [RW.out] at q; exact q)
      have W6 := Lib.hid (grow_below WA.out O5.out hg1.out (Nat.le_refl _) WA.out.size)
      clear hown1 hg1
      simp only [Kit.Ends]
      go_wp2_with fail
      go_roundw
      case rel => exact ⟨i + 1, by omega, by omega, by go_num, O6.out, W6.out⟩
      case measure => simp [intOf]; omega
    · have hin : i = n := by omega
      subst i
      obtain ⟨P, hP⟩ : ∃ P, P = n - 1 := ⟨_, rfl⟩
      have gt0 : wr.cell? ⟨g, P * 4, none⟩ = some (.int .i64 (tm off D P)) := hg5.cell P (by omega) 0 (by decide)
      have een : tm off D P = fen off D n := by rw [hP]; rfl
      rw [een] at gt0
      have GT0 := Lib.hid gt0
      have bPn : (P : Int) < (n : Int) := by omega
      have u1' : IntKind.i64.wrap ((n : Int) - 1) = (P : Int) := by rw [IntWalk.i64_in _ (by omega)]; omega
      have hPn : (P : Int) ≤ 61 := by omega
      have eb1 : off ≤ fen off D n := by rw [← een]; exact tm_ge P
      have N3 := Lib.hid (Plan.n8_keep hbl N1.out)
      have K3 := Lib.hid (Kind.k7_keep hbl K1.out)
      obtain ⟨en, hen⟩ : ∃ en, en = fen off D n := ⟨_, rfl⟩
      have HEN := Lib.hid hen
      have PR := PRC.out
      rw [← hen] at PR
      have PRC := Lib.hid PR; clear PR
      rw [← hen] at gt0 eb1
      clear hbl hP hg5 een hlt hi GT0 hen
      have u1 := u1'
      obtain ⟨x0, x1, x2, x3, x4, x5, x6, x7⟩ := N3.out
      obtain ⟨y0, y1, y2, y3, y4, y5, y6⟩ := K3.out
      by_cases h200 : 200000 < en
      · go_wp2_with fail
        refine bodyPost_ret (v := .tuple #[.slice none 0 0, .int .i64 12]) (by simp [results, Tryz.results30, go_sem]) rfl ⟨Or.inl ⟨by rw [← HEN.out]; exact h200, rfl⟩, ?_⟩
        exact WB.out
      · have h200' : en ≤ 200000 := by omega
        have PR := PRC.out h200'
        clear PRC
        have PRC := Lib.hid PR; clear PR
        have i1 : IntKind.i64.wrap (en - off) = en - off := IntWalk.i64_in _ (by omega)
        go_wp2_with fail
        (with_reducible refine (UPC.out _).mono ?_); rintro e w2 ⟨rfl, rfl⟩
        go_wp2_with fail
        (with_reducible refine (DNC.out _).mono ?_); rintro e w2 ⟨rfl, rfl⟩
        have HB1 := Lib.hid bu.1; have HB2 := Lib.hid bu.2
        obtain ⟨U, hU⟩ : ∃ U, U = du h climb := ⟨_, rfl⟩
        obtain ⟨V, hV⟩ : ∃ V, V = du h desc := ⟨_, rfl⟩
        have hfe : fen off D n = en := HEN.out.symm
        have HST : Hid (∀ c, c ≤ stK off h climb desc D n → Ok off en (stN off h climb desc D X Y n c) (stF off h climb desc D X Y n c) ∧ stN off h climb desc D X Y n c ≤ n + c) := Lib.hid fun c hc => by
          have q := ok_st (off := off) (h := h) (climb := climb) (desc := desc) (D := D) (X := X) (Y := Y) h2 HG.out bu.1.1 bu.2.1 c hc
          rw [hfe] at q
          exact ⟨q.1, q.2.1⟩
        have SK : Hid (stK off h climb desc D n = if U ≤ en - off - V then 2 else 0) := Lib.hid (by unfold stK; rw [hfe, hU, hV])
        have FT : Hid (ft1 off h climb = off + U ∧ ft2 off h desc D n = off + (en - off - V)) := Lib.hid ⟨by unfold ft1; rw [hU], by unfold ft2; rw [hfe, hV]⟩
        have bu1 := bu.1; have bu2 := bu.2
        rw [← hU] at bu1 ⊢
        rw [← hV] at bu2 ⊢
        clear hU hV hfe bu i1
        have i1 : IntKind.i64.wrap (en - off) = en - off := IntWalk.i64_in _ (by omega)
        obtain ⟨B9, hB9⟩ : ∃ B9, decide (U ≤ en - off - V) = B9 := ⟨_, rfl⟩
        go_upto_if 129 with (fail)
        have HB9 := Lib.hid hB9; clear hB9
        go_cut [11] (fun v wc => ∃ (mm : Nat) (ff : Nd), mm = stN off h climb desc D X Y n (stK off h climb desc D n) ∧ ff = stF off h climb desc D X Y n (stK off h climb desc D n) ∧ Own wc w1.heap.size 55 4 v mm ff ∧ Below w1.heap.size w1 wc)
        case first =>
          cases B9 with
          | true =>
            have hfl := of_decide_eq_true HB9.out
            have K2 : Hid (stK off h climb desc D n = 2) := Lib.hid (by rw [SK.out, if_pos hfl])
            have HS2 : Hid (∀ c, c ≤ 2 → Ok off en (stN off h climb desc D X Y n c) (stF off h climb desc D X Y n c) ∧ stN off h climb desc D X Y n c ≤ n + c) := Lib.hid fun c hc => HST.out c (by rw [K2.out]; exact hc)
            obtain ⟨T1, hT1⟩ : ∃ T1, off + U = T1 := ⟨_, rfl⟩
            obtain ⟨T2, hT2⟩ : ∃ T2, off + (en - off - V) = T2 := ⟨_, rfl⟩
            have bt1 : off < T1 ∧ T1 < en := by omega
            have bt2 : off < T2 ∧ T2 < en := by omega
            have FT' := FT.out
            rw [hT1, hT2] at FT'
            have FT2 := Lib.hid FT'; clear FT'
            have OB := Lib.hid (own_keep (b_alloc (Below.refl wr.heap.size wr) (.cells #[.int .i64 T1, .int .i64 T2] 3)) OW.out)
            have WB2 := Lib.hid (b_alloc WR.out (.cells #[.int .i64 T1, .int .i64 T2] 3))
            have NB := Lib.hid (p2_new wr 3 T1 T2)
            go_wp2_with fail
            clear hT1 hT2
            obtain ⟨bn, hbn⟩ : ∃ bn, bn = wr.heap.size := ⟨_, rfl⟩
            rw [← hbn] at NB ⊢
            have HNE : Hid ((Value.slice (some ⟨g, 0, none⟩) n gc).ownBlock ≠ some bn) := Lib.hid (by show some g ≠ some bn; intro e; injection e; omega)
            clear hbn
            generalize wr.alloc (.cells #[.int .i64 T1, .int .i64 T2] 3) = wb at *
            clear OW WR WB gt0 u1' u1 x0 x1 x2 x3 x4 x5 x6 x7 y0 y1 y2 y3 y4 y5 y6
            go_loopw [11, 140] (fun v u wi => ∃ q : Nat, q ≤ 2 ∧ u = .int .i64 q ∧ Own wi w1.heap.size 55 4 v (stN off h climb desc D X Y n q) (stF off h climb desc D X Y n q) ∧ Below w1.heap.size w1 wi ∧ P2 wi bn T1 T2 ∧ v.ownBlock ≠ some bn) (fun _ u _ => 2 - (intOf u).toNat)
            case atStart => exact ⟨0, Nat.zero_le _, rfl, OB.out, WB2.out, NB.out, HNE.out⟩
            case round =>
              obtain ⟨q, hq, rfl, ho, hbl, hnb, hne8⟩ := hrel
              have BI := Lib.hid hbl; have NBI := Lib.hid hnb
              obtain ⟨o1, o2⟩ := HS2.out q hq
              obtain ⟨m, hm⟩ : ∃ m, m = stN off h climb desc D X Y n q := ⟨_, rfl⟩
              obtain ⟨f, hf⟩ : ∃ f, f = stF off h climb desc D X Y n q := ⟨_, rfl⟩
              rw [← hm, ← hf] at ho o1
              rw [← hm] at o2
              have O := Lib.hid o1; have OI := Lib.hid ho
              have hm2 := o1.two
              have hm64 : m ≤ 64 := by omega
              obtain ⟨g2, gc2, rfl, hgb, hgl, hg3', hg4', hat⟩ := own_row ho (by omega)
              have hg7 : gc2 ≤ 9223372036854775807 := Nat.le_trans hg4' (by decide)
              by_cases hlt : q < 2
              · have hlt' : (q : Int) < 2 := by omega
                obtain ⟨tq, htq⟩ : ∃ tq, tq = if q = 0 then T1 else T2 := ⟨_, rfl⟩
                have btq : off < tq ∧ tq < en := by rw [htq]; split <;> omega
                have kc : wr.cell? ⟨bn, q, none⟩ = some (.int .i64 tq) := by
                  rw [htq]
                  rcases (show q = 0 ∨ q = 1 by omega) with rfl | rfl
                  · exact hnb.1
                  · exact hnb.2
                have EN : Hid (stN off h climb desc D X Y n (q + 1) = sN tq m f ∧ stF off h climb desc D X Y n (q + 1) = sF tq m f) := Lib.hid (by
                  rw [htq, hm, hf]
                  rcases (show q = 0 ∨ q = 1 by omega) with rfl | rfl
                  · rw [if_pos rfl, ← FT2.out.1]; exact ⟨rfl, rfl⟩
                  · rw [if_neg (by decide), ← FT2.out.2]; exact ⟨rfl, rfl⟩)
                have fs := fx_spec o1 btq.1 btq.2
                unfold sN sF at EN
                obtain ⟨i, hi⟩ : ∃ i, i = fx f tq m := ⟨_, rfl⟩
                rw [← hi] at fs EN
                obtain ⟨hi0, him, hL, hR⟩ := fs
                have HV4 : Hid (∀ w', Below wr.heap.size wr w' → ∀ k, k < m → N4 w' g2 0 k (f k 0) (f k 1) (f k 2) (f k 3)) := Lib.hid fun w' hb k hk => by
                  have a0 := keep hb (hat.cell k hk 0 (by decide)); have a1 := keep hb (hat.cell k hk 1 (by decide)); have a2 := keep hb (hat.cell k hk 2 (by decide)); have a3 := keep hb (hat.cell k hk 3 (by decide))
                  refine ⟨⟨?_, ?_⟩, ?_, ?_⟩ <;> rw [Nat.zero_add]
                  · exact a0
                  · exact a1
                  · exact a2
                  · exact a3
                have HTB : Hid (∀ k, k < m → 0 ≤ f k 0 ∧ f k 0 ≤ 200000) := Lib.hid fun k hk => by
                  have a := o1.le (Nat.zero_le k) hk
                  have b := o1.le (i := k) (j := m - 1) (by omega) (by omega)
                  rw [o1.first] at a; rw [o1.last] at b
                  omega
                have HL := Lib.hid hL; have HR := Lib.hid hR; have HG2 := Lib.hid o1.good
                have OW2 := Lib.hid ho; have BT := Lib.hid btq
                have htb : -200000 ≤ tq ∧ tq ≤ 400000 := by omega
                clear hbl hnb ho o1 o2 hat hm hf hi htq hL hR hg4' FT2 O OI
                by_cases hfe : f i 0 = tq
                · have SC := Lib.hid (search_yes m gc2 g2 0 (fun k => f k 0) (fun k => f k 1) (fun k => f k 2) (fun k => f k 3) tq i wr him hm64 hg3' hg7 (Lib.hid (HV4.out _ (Below.refl _ _))) HL HR HTB htb hfe)
                  have E2 := Lib.hid (show stN off h climb desc D X Y n (q + 1) = m ∧ stF off h climb desc D X Y n (q + 1) = f by have e := EN.out; rw [if_pos hfe, if_pos hfe] at e; exact e)
                  clear EN hfe
                  go_wp2_with fail
                  (with_reducible refine SC.out.mono ?_); rintro e w3 ⟨rfl, hb3⟩
                  have B3 := Lib.hid (b_next BI.out hb3); have O3 := Lib.hid (own_keep hb3 OW2.out); have N3' := Lib.hid (p2_keep hb3 NBI.out)
                  clear hb3
                  go_wp2_with fail
                  go_roundw
                  case rel => exact ⟨q + 1, by omega, by go_num, by rw [E2.out.1, E2.out.2]; exact O3.out, B3.out, N3'.out, hne8⟩
                  case measure => simp [intOf]; omega
                · have SC := Lib.hid (search_no m gc2 g2 0 (fun k => f k 0) (fun k => f k 1) (fun k => f k 2) (fun k => f k 3) tq i wr him hm64 hg3' hg7 (Lib.hid (HV4.out _ (Below.refl _ _))) HL HR HTB htb hfe)
                  obtain ⟨P, hP⟩ : ∃ P, P = i - 1 := ⟨_, rfl⟩
                  have E2 := Lib.hid (show stN off h climb desc D X Y n (q + 1) = m + 1 ∧ stF off h climb desc D X Y n (q + 1) = insR f i tq (tw (f P 1) (f i 1) (tq - f P 0) (f i 0 - f P 0)) (tw (f P 2) (f i 2) (tq - f P 0) (f i 0 - f P 0)) 0 by have e := EN.out; rw [if_neg hfe, if_neg hfe, ← hP] at e; exact e)
                  have tP := HTB.out P (by omega); have tI := HTB.out i him
                  have l1 := HL.out P (by omega); have l2 := HR.out i (Nat.le_refl _) him
                  have l3 : tq < f i 0 := by omega
                  have gP := HG2.out P (by omega); have gI := HG2.out i him
                  have TWC := Lib.hid (fun w' => toward_ok (f P 1) (f P 2) (f i 1) (f i 2) (tq - f P 0) (f i 0 - f P 0) w' (by omega) (by omega) (by omega) (by omega) gP gI)
                  have uP : IntKind.i64.wrap ((i : Int) - 1) = (P : Int) := by rw [IntWalk.i64_in _ (by omega)]; omega
                  have UP := Lib.hid uP
                  have hPi : (P : Int) < (m : Int) := by omega
                  have hii : (i : Int) < (m : Int) := by omega
                  clear EN hfe hP uP gP gI
                  go_wp2_with fail
                  (with_reducible refine SC.out.mono ?_); rintro e w3 ⟨rfl, hb3⟩
                  have B3 := Lib.hid (b_next BI.out hb3); have O3 := Lib.hid (own_keep hb3 OW2.out); have N3' := Lib.hid (p2_keep hb3 NBI.out)
                  have e0 := HV4.out _ hb3 P (by omega); have e1 := HV4.out _ hb3 i him
                  simp only [Path.N4, Nat.zero_add] at e0 e1
                  have E0 := Lib.hid e0; have E1 := Lib.hid e1; clear e0 e1
                  clear hb3
                  have uP := UP.out
                  go_wp2_with fail
                  refine fresh_region (by kernel_rfl) (by kernel_rfl) ?_
                  apply Fq.r
                  · intro wq hc hq
                    (obtain ⟨⟨a0, a1⟩, a2, a3⟩ := E0.out; obtain ⟨⟨b0, b1⟩, b2, b3⟩ := E1.out; have q0 := keep (cls hq) a0; have q1 := keep (cls hq) a1; have q2 := keep (cls hq) a2; have q3 := keep (cls hq) a3; have q4 := keep (cls hq) b0; have q5 := keep (cls hq) b1; have q6 := keep (cls hq) b2; have q7 := keep (cls hq) b3; clear a0 a1 a2 a3 b0 b1 b2 b3; clear hc; go_simp; first | exact q2_value | exact q2_skip)
                  simp only [Act.put, List.setIfInBounds_toArray, List.set_cons_zero, List.set_cons_succ]
                  apply Fq.r
                  · intro wq hc hq
                    (obtain ⟨⟨a0, a1⟩, a2, a3⟩ := E0.out; obtain ⟨⟨b0, b1⟩, b2, b3⟩ := E1.out; have q0 := keep (cls hq) a0; have q1 := keep (cls hq) a1; have q2 := keep (cls hq) a2; have q3 := keep (cls hq) a3; have q4 := keep (cls hq) b0; have q5 := keep (cls hq) b1; have q6 := keep (cls hq) b2; have q7 := keep (cls hq) b3; clear a0 a1 a2 a3 b0 b1 b2 b3; clear hc; go_simp; first | exact q2_value | exact q2_skip)
                  simp only [Act.put, List.setIfInBounds_toArray, List.set_cons_zero, List.set_cons_succ]
                  apply Fq.r
                  · intro wq hc hq
                    (obtain ⟨⟨a0, a1⟩, a2, a3⟩ := E0.out; obtain ⟨⟨b0, b1⟩, b2, b3⟩ := E1.out; have q0 := keep (cls hq) a0; have q1 := keep (cls hq) a1; have q2 := keep (cls hq) a2; have q3 := keep (cls hq) a3; have q4 := keep (cls hq) b0; have q5 := keep (cls hq) b1; have q6 := keep (cls hq) b2; have q7 := keep (cls hq) b3; clear a0 a1 a2 a3 b0 b1 b2 b3; clear hc; go_simp; first | exact q2_value | exact q2_skip)
                  simp only [Act.put, List.setIfInBounds_toArray, List.set_cons_zero, List.set_cons_succ]
                  apply Fq.r
                  · intro wq hc hq
                    (obtain ⟨⟨a0, a1⟩, a2, a3⟩ := E0.out; obtain ⟨⟨b0, b1⟩, b2, b3⟩ := E1.out; have q0 := keep (cls hq) a0; have q1 := keep (cls hq) a1; have q2 := keep (cls hq) a2; have q3 := keep (cls hq) a3; have q4 := keep (cls hq) b0; have q5 := keep (cls hq) b1; have q6 := keep (cls hq) b2; have q7 := keep (cls hq) b3; clear a0 a1 a2 a3 b0 b1 b2 b3; clear hc; go_simp; first | exact q2_value | exact q2_skip)
                  simp only [Act.put, List.setIfInBounds_toArray, List.set_cons_zero, List.set_cons_succ]
                  apply Fq.r
                  · intro wq hc hq
                    (obtain ⟨⟨a0, a1⟩, a2, a3⟩ := E0.out; obtain ⟨⟨b0, b1⟩, b2, b3⟩ := E1.out; have q0 := keep (cls hq) a0; have q1 := keep (cls hq) a1; have q2 := keep (cls hq) a2; have q3 := keep (cls hq) a3; have q4 := keep (cls hq) b0; have q5 := keep (cls hq) b1; have q6 := keep (cls hq) b2; have q7 := keep (cls hq) b3; clear a0 a1 a2 a3 b0 b1 b2 b3; clear hc; go_simp; first | exact q2_value | exact q2_skip)
                  simp only [Act.put, List.setIfInBounds_toArray, List.set_cons_zero, List.set_cons_succ]
                  apply Fq.r
                  · intro wq hc hq
                    (obtain ⟨⟨a0, a1⟩, a2, a3⟩ := E0.out; obtain ⟨⟨b0, b1⟩, b2, b3⟩ := E1.out; have q0 := keep (cls hq) a0; have q1 := keep (cls hq) a1; have q2 := keep (cls hq) a2; have q3 := keep (cls hq) a3; have q4 := keep (cls hq) b0; have q5 := keep (cls hq) b1; have q6 := keep (cls hq) b2; have q7 := keep (cls hq) b3; clear a0 a1 a2 a3 b0 b1 b2 b3; clear hc; go_simp; first | exact q2_value | exact q2_skip)
                  simp only [Act.put, List.setIfInBounds_toArray, List.set_cons_zero, List.set_cons_succ]
                  apply Fq.r
                  · intro wq hc hq
                    (obtain ⟨⟨a0, a1⟩, a2, a3⟩ := E0.out; obtain ⟨⟨b0, b1⟩, b2, b3⟩ := E1.out; have q0 := keep (cls hq) a0; have q1 := keep (cls hq) a1; have q2 := keep (cls hq) a2; have q3 := keep (cls hq) a3; have q4 := keep (cls hq) b0; have q5 := keep (cls hq) b1; have q6 := keep (cls hq) b2; have q7 := keep (cls hq) b3; clear a0 a1 a2 a3 b0 b1 b2 b3; clear hc; go_simp; first | exact q2_value | exact q2_skip)
                  simp only [Act.put, List.setIfInBounds_toArray, List.set_cons_zero, List.set_cons_succ]
                  apply Fq.r
                  · intro wq hc hq
                    (obtain ⟨⟨a0, a1⟩, a2, a3⟩ := E0.out; obtain ⟨⟨b0, b1⟩, b2, b3⟩ := E1.out; have q0 := keep (cls hq) a0; have q1 := keep (cls hq) a1; have q2 := keep (cls hq) a2; have q3 := keep (cls hq) a3; have q4 := keep (cls hq) b0; have q5 := keep (cls hq) b1; have q6 := keep (cls hq) b2; have q7 := keep (cls hq) b3; clear a0 a1 a2 a3 b0 b1 b2 b3; clear hc; go_simp; first | exact q2_value | exact q2_skip)
                  simp only [Act.put, List.setIfInBounds_toArray, List.set_cons_zero, List.set_cons_succ]
                  apply Fq.r
                  · intro wq hc hq
                    (obtain ⟨⟨a0, a1⟩, a2, a3⟩ := E0.out; obtain ⟨⟨b0, b1⟩, b2, b3⟩ := E1.out; have q0 := keep (cls hq) a0; have q1 := keep (cls hq) a1; have q2 := keep (cls hq) a2; have q3 := keep (cls hq) a3; have q4 := keep (cls hq) b0; have q5 := keep (cls hq) b1; have q6 := keep (cls hq) b2; have q7 := keep (cls hq) b3; clear a0 a1 a2 a3 b0 b1 b2 b3; clear hc; go_simp; first | exact q2_value | exact q2_skip)
                  simp only [Act.put, List.setIfInBounds_toArray, List.set_cons_zero, List.set_cons_succ]
                  refine Fq.al 28 55 #[.int .i64 0, .int .i64 0, .int .i64 0, .int .i64 0] rfl (by simp) (fun wq => by go_simp) ?_
                  refine Fq.al 29 55 #[.int .i64 0, .int .i64 0, .int .i64 0, .int .i64 0] rfl (by simp) (fun wq => by go_simp) ?_
                  refine Fq.st 9 #[.int .i64 (f P 0), .int .i64 (f P 1), .int .i64 (f P 2), .int .i64 (f P 3)] 28 55 #[.int .i64 0, .int .i64 0, .int .i64 0, .int .i64 0] rfl rfl (fun wq bq hq => ⟨((((wq.setCell ⟨bq, 0, none⟩ (.int .i64 (f P 0))).setCell ⟨bq, 1, none⟩ (.int .i64 (f P 1))).setCell ⟨bq, 2, none⟩ (.int .i64 (f P 2))).setCell ⟨bq, 3, none⟩ (.int .i64 (f P 3))), ?_, blk_set (blk_set (blk_set (blk_set (hq) 0 (.int .i64 (f P 0))) 1 (.int .i64 (f P 1))) 2 (.int .i64 (f P 2))) 3 (.int .i64 (f P 3)), only_set (only_set (only_set (only_set (only_refl _ _) 0 (.int .i64 (f P 0))) 1 (.int .i64 (f P 1))) 2 (.int .i64 (f P 2))) 3 (.int .i64 (f P 3))⟩) ?_
                  · (have c0 : wq.cell? ⟨bq, 0, none⟩ = some (.int .i64 0) := blk_cell hq 0; have f0 := blk_free hq 0; have c1 : wq.cell? ⟨bq, 1, none⟩ = some (.int .i64 0) := blk_cell hq 1; have f1 := blk_free hq 1; have c2 : wq.cell? ⟨bq, 2, none⟩ = some (.int .i64 0) := blk_cell hq 2; have f2 := blk_free hq 2; have c3 : wq.cell? ⟨bq, 3, none⟩ = some (.int .i64 0) := blk_cell hq 3; have f3 := blk_free hq 3; simp only [Act.put, List.setIfInBounds_toArray, List.set_cons_zero, List.set_cons_succ]; clear hq; go_simp)
                  refine Fq.st 10 #[.int .i64 (f i 0), .int .i64 (f i 1), .int .i64 (f i 2), .int .i64 (f i 3)] 29 55 #[.int .i64 0, .int .i64 0, .int .i64 0, .int .i64 0] rfl rfl (fun wq bq hq => ⟨((((wq.setCell ⟨bq, 0, none⟩ (.int .i64 (f i 0))).setCell ⟨bq, 1, none⟩ (.int .i64 (f i 1))).setCell ⟨bq, 2, none⟩ (.int .i64 (f i 2))).setCell ⟨bq, 3, none⟩ (.int .i64 (f i 3))), ?_, blk_set (blk_set (blk_set (blk_set (hq) 0 (.int .i64 (f i 0))) 1 (.int .i64 (f i 1))) 2 (.int .i64 (f i 2))) 3 (.int .i64 (f i 3)), only_set (only_set (only_set (only_set (only_refl _ _) 0 (.int .i64 (f i 0))) 1 (.int .i64 (f i 1))) 2 (.int .i64 (f i 2))) 3 (.int .i64 (f i 3))⟩) ?_
                  · (have c0 : wq.cell? ⟨bq, 0, none⟩ = some (.int .i64 0) := blk_cell hq 0; have f0 := blk_free hq 0; have c1 : wq.cell? ⟨bq, 1, none⟩ = some (.int .i64 0) := blk_cell hq 1; have f1 := blk_free hq 1; have c2 : wq.cell? ⟨bq, 2, none⟩ = some (.int .i64 0) := blk_cell hq 2; have f2 := blk_free hq 2; have c3 : wq.cell? ⟨bq, 3, none⟩ = some (.int .i64 0) := blk_cell hq 3; have f3 := blk_free hq 3; simp only [Act.put, List.setIfInBounds_toArray, List.set_cons_zero, List.set_cons_succ]; clear hq; go_simp)
                  refine Fq.nil ⟨by kernel_rfl, fun β w5 M => ?_⟩
                  simp only [List.reverse_cons, List.reverse_nil, List.nil_append, List.cons_append, putAl, Act.put, List.setIfInBounds_toArray, List.set_cons_zero, List.set_cons_succ, Nat.reduceAdd]
                  have z9 := blk_b4 (M.block 11 9 _ _ _ _ rfl rfl)
                  have l9 := M.fresh 9 _ _ _ rfl
                  have z10 := blk_b4 (M.block 12 10 _ _ _ _ rfl rfl)
                  have l10 := M.fresh 10 _ _ _ rfl
                  have m9_10 := made_ne M 9 10 rfl rfl (by decide)
                  have hbw5 := M.below
                  clear M
                  generalize β 9 = p9 at *
                  generalize β 10 = p10 at *
                  clear uP
                  have B5 := Lib.hid (b_next B3.out hbw5); have O5 := Lib.hid (own_keep hbw5 O3.out); have N5 := Lib.hid (p2_keep hbw5 N3'.out)
                  clear hbw5
                  obtain ⟨⟨z0, z1⟩, z2, z3⟩ := z9
                  obtain ⟨⟨y0, y1⟩, y2, y3⟩ := z10
                  go_wp2_with fail
                  (with_reducible refine (TWC.out _).mono ?_); rintro e w6 ⟨rfl, hb6⟩
                  generalize tw (f P 1) (f i 1) (tq - f P 0) (f i 0 - f P 0) = qx at *
                  generalize tw (f P 2) (f i 2) (tq - f P 0) (f i 0 - f P 0) = qy at *
                  have B6 := Lib.hid (b_next B5.out hb6); have O6 := Lib.hid (own_keep hb6 O5.out); have N6 := Lib.hid (p2_keep hb6 N5.out)
                  clear hb6 z0 z1 z2 z3 y0 y1 y2 y3
                  go_wp2_with fail
                  have hbase : w1.heap.size ≤ w6.heap.size := B6.out.size
                  have IO : Hid (Own ((w6.alloc (.cells #[.int .i64 qx, .int .i64 qy] 36)).alloc (.cells #[.int .i64 tq, .int .i64 qx, .int .i64 qy, .int .i64 0] 55)) w1.heap.size 55 4 (.slice (some ⟨g2, 0, none⟩) m gc2) m f) := Lib.hid (own_keep (b_alloc (b_alloc (Below.refl _ _) _) _) O6.out)
                  have B7 := Lib.hid (b_alloc (b_alloc B6.out (.cells #[.int .i64 qx, .int .i64 qy] 36)) (.cells #[.int .i64 tq, .int .i64 qx, .int .i64 qy, .int .i64 0] 55))
                  have N7 := Lib.hid (p2_alloc (.cells #[.int .i64 tq, .int .i64 qx, .int .i64 qy, .int .i64 0] 55) (p2_alloc (.cells #[.int .i64 qx, .int .i64 qy] 36) N6.out))
                  have hvb : ((w6.alloc (.cells #[.int .i64 qx, .int .i64 qy] 36)).alloc (.cells #[.int .i64 tq, .int .i64 qx, .int .i64 qy, .int .i64 0] 55)).heap[w6.heap.size + 1]? = some (.cells #[.int .i64 tq, .int .i64 qx, .int .i64 qy, .int .i64 0] 55 (0, 0)) := by
                    have q := heap_alloc_new (w6.alloc (.cells #[.int .i64 qx, .int .i64 qy] 36)) (.cells #[.int .i64 tq, .int .i64 qx, .int .i64 qy, .int .i64 0] 55)
                    rw [World.size_alloc] at q; exact q
                  have hgl6 : g2 < w6.heap.size := own_lt O6.out
                  have IC := Lib.hid (insC (i := i) IO.out him hm64 B7.out.size hvb (by show some g2 ≠ some _; intro e; injection e; omega))
                  clear IO hvb
                  (with_reducible refine IC.out.mono ?_); rintro e w8 ⟨⟨⟨v8, rfl, ho8, hv8⟩, hg8⟩, hb8⟩
                  have B8 := Lib.hid (B7.out.trans hb8); have O8 := Lib.hid ho8
                  have N8 := Lib.hid (p2_grown hg8 N7.out hne8)
                  have NE8 : Hid (v8.ownBlock ≠ some bn) := Lib.hid (by
                    rcases hv8 with e | e
                    · rw [e]; exact hne8
                    · rw [e]; intro e2; injection e2 with e2; have := lt_of_cell N7.out.1; rw [← e2] at this; exact Nat.lt_irrefl _ this)
                  clear ho8 hv8 hg8 hb8 IC B7 N7
                  go_wp2_with fail
                  go_roundw
                  case rel => exact ⟨q + 1, by omega, by go_num, by rw [E2.out.1, E2.out.2]; exact O8.out, B8.out, N8.out, NE8.out⟩
                  case measure => simp [intOf]; omega
              · obtain rfl : q = 2 := by omega
                have HE := Lib.hid (And.intro hm hf)
                clear hbl hnb ho o1 o2 hat hm hf FT2
                go_wp2_with fail
                go_meet
                exact ⟨m, f, by rw [K2.out]; exact HE.out.1, by rw [K2.out]; exact HE.out.2, OI.out, BI.out⟩
          | false =>
            have hfl := of_decide_eq_false HB9.out
            have K0' : Hid (stK off h climb desc D n = 0) := Lib.hid (by rw [SK.out, if_neg hfl])
            go_wp2_with fail
            go_meet
            exact ⟨n, nd0 off D X Y, by rw [K0'.out]; rfl, by rw [K0'.out]; rfl, OW.out, WR.out⟩
        case rest =>
          obtain ⟨mm, ff, hmm, hff, ho, hbl⟩ := hcut
          have HST' := HST.out _ (Nat.le_refl _)
          rw [← hmm, ← hff] at HST'
          have OK0 := Lib.hid HST'.1
          have HK2 : stK off h climb desc D n ≤ 2 := by rw [SK.out]; split <;> omega
          have HL4 : mm ≤ 64 := by have := HST'.2; omega
          have hm2 : 2 ≤ mm := HST'.1.two
          have HMF := Lib.hid (And.intro hmm hff)
          have W2 := Lib.hid hbl
          obtain ⟨g2, gc2, rfl, hgb, -, hg3', hg4', -⟩ := own_row ho (by omega)
          have hg7 : gc2 ≤ 9223372036854775807 := Nat.le_trans hg4' (by decide)
          have HO := Lib.hid ho; have HZ := W2
          clear HST' hmm hff ho hbl HK2 OW WR WB gt0 u1' u1 x0 x1 x2 x3 x4 x5 x6 x7 y0 y1 y2 y3 y4 y5 y6 N3 K3 hg4'
          go_wp2_with fail
          go_loopw [188] (fun s wr => ∃ k : Nat, k ≤ mm ∧ s = .int .i64 k ∧ Own wr w1.heap.size 55 4 (.slice (some ⟨g2, 0, none⟩) mm gc2) mm (fun a j => if j = 3 ∧ a < k then (Kind.prof ceil climb desc h (en - off) (ff a 0 - off)).1 else ff a j) ∧ Below w1.heap.size w1 wr) (fun s _ => mm - (intOf s).toNat)
          case atStart => exact ⟨0, Nat.zero_le _, rfl, own_congr HO.out (fun a ha j hj => by rw [if_neg (by omega)]), HZ.out⟩
          case round =>
            obtain ⟨k, hk, rfl, hown, hbl⟩ := hrel
            have O5 := Lib.hid hown; have W5 := Lib.hid hbl; have B5 := Lib.hid (b_next W1.out hbl); clear hown
            by_cases hlt : k < mm
            · have hl : (k : Int) < (mm : Int) := by omega
              have hk61 : (k : Int) ≤ 64 := by omega
              obtain ⟨g3', c5, e5, -, -, -, -, hr5⟩ := own_row O5.out (by omega)
              injection e5 with e5a _ e5c
              injection e5a with e5a
              injection e5a with e5a
              subst e5a e5c
              have tc : wr.cell? ⟨g2, k * 4, none⟩ = some (.int .i64 (ff k 0)) := by have q := hr5.cell k hlt 0 (by decide); rw [if_neg (by omega)] at q; exact q
              have t1 := OK0.out.le (Nat.zero_le k) hlt
              rw [OK0.out.first] at t1
              have t2 := OK0.out.le (i := k) (j := mm - 1) (by omega) (by omega)
              rw [OK0.out.last] at t2
              have N5 := Lib.hid (Plan.n8_keep hbl N1.out); have K5 := Lib.hid (Kind.k7_keep hbl K1.out)
              obtain ⟨tk, htk⟩ : ∃ tk, tk = ff k 0 := ⟨_, rfl⟩
              have HTK := Lib.hid htk
              rw [← htk] at tc t1 t2
              have TC := Lib.hid tc
              clear hbl hr5 tc htk
              have i5 : IntKind.i64.wrap (tk - off) = tk - off := IntWalk.i64_in _ (by omega)
              have r1 : 0 ≤ tk - off := by omega
              have r2 : tk - off ≤ en - off := by omega
              go_wp2_with fail
              refine Tail.tail_region (by kernel_rfl) (by kernel_rfl) ?_
              apply Tail.Gq.p
              · intro wq
                (go_simp; first | exact Tail.pv_value | exact Tail.pv_skip)
              simp only [Act.put, List.setIfInBounds_toArray, List.set_cons_zero, List.set_cons_succ]
              apply Tail.Gq.p
              · intro wq
                (go_simp; first | exact Tail.pv_value | exact Tail.pv_skip)
              simp only [Act.put, List.setIfInBounds_toArray, List.set_cons_zero, List.set_cons_succ]
              apply Tail.Gq.r
              · intro wq hc hq
                (obtain ⟨y0, y1, y2, y3, y4, y5, y6⟩ := K5.out; have q0 := keep (cls hq) y0; have q1 := keep (cls hq) y1; have q2 := keep (cls hq) y2; have q3 := keep (cls hq) y3; have q4 := keep (cls hq) y4; have q5 := keep (cls hq) y5; have q6 := keep (cls hq) y6; clear hc; go_simp; first | exact q2_value | exact q2_skip | (apply q2_enter; go_at_call 62; with_reducible exact PRC.out _ r1 r2 _))
              simp only [Act.put, List.setIfInBounds_toArray, List.set_cons_zero, List.set_cons_succ]
              apply Tail.Gq.p
              · intro wq
                (go_simp; first | exact Tail.pv_value | exact Tail.pv_skip)
              simp only [Act.put, List.setIfInBounds_toArray, List.set_cons_zero, List.set_cons_succ]
              apply Tail.Gq.r
              · intro wq hc hq
                (have q1 := keep (cls hq) N5.out.c6; clear hc; go_simp; first | exact q2_value | exact q2_skip | (apply q2_enter; go_at_call 62; with_reducible exact PRC.out _ r1 r2 _))
              simp only [Act.put, List.setIfInBounds_toArray, List.set_cons_zero, List.set_cons_succ]
              apply Tail.Gq.p
              · intro wq
                (go_simp; first | exact Tail.pv_value | exact Tail.pv_skip)
              simp only [Act.put, List.setIfInBounds_toArray, List.set_cons_zero, List.set_cons_succ]
              apply Tail.Gq.p
              · intro wq
                (go_simp; first | exact Tail.pv_value | exact Tail.pv_skip)
              simp only [Act.put, List.setIfInBounds_toArray, List.set_cons_zero, List.set_cons_succ]
              apply Tail.Gq.p
              · intro wq
                (go_simp; first | exact Tail.pv_value | exact Tail.pv_skip)
              simp only [Act.put, List.setIfInBounds_toArray, List.set_cons_zero, List.set_cons_succ]
              apply Tail.Gq.p
              · intro wq
                (go_simp; first | exact Tail.pv_value | exact Tail.pv_skip)
              simp only [Act.put, List.setIfInBounds_toArray, List.set_cons_zero, List.set_cons_succ]
              apply Tail.Gq.p
              · intro wq
                (go_simp; first | exact Tail.pv_value | exact Tail.pv_skip)
              simp only [Act.put, List.setIfInBounds_toArray, List.set_cons_zero, List.set_cons_succ]
              apply Tail.Gq.r
              · intro wq hc hq
                (have q1 := keep (cls hq) TC.out; clear hc; go_simp; first | exact q2_value | exact q2_skip | (apply q2_enter; go_at_call 62; with_reducible exact PRC.out _ r1 r2 _))
              simp only [Act.put, List.setIfInBounds_toArray, List.set_cons_zero, List.set_cons_succ]
              apply Tail.Gq.p
              · intro wq
                (go_simp; first | exact Tail.pv_value | exact Tail.pv_skip)
              simp only [Act.put, List.setIfInBounds_toArray, List.set_cons_zero, List.set_cons_succ]
              apply Tail.Gq.r
              · intro wq hc hq
                (have q1 := keep (cls hq) N5.out.c4; clear hc; go_simp; first | exact q2_value | exact q2_skip | (apply q2_enter; go_at_call 62; with_reducible exact PRC.out _ r1 r2 _))
              simp only [Act.put, List.setIfInBounds_toArray, List.set_cons_zero, List.set_cons_succ]
              apply Tail.Gq.p
              · intro wq
                (go_simp; first | exact Tail.pv_value | exact Tail.pv_skip)
              simp only [Act.put, List.setIfInBounds_toArray, List.set_cons_zero, List.set_cons_succ]
              apply Tail.Gq.r
              · intro wq hc hq
                (clear hc; go_simp; first | exact q2_value | exact q2_skip | (apply q2_enter; go_at_call 62; with_reducible exact PRC.out _ r1 r2 _))
              simp only [Act.put, List.setIfInBounds_toArray, List.set_cons_zero, List.set_cons_succ]
              apply Tail.Gq.p
              · intro wq
                (go_simp; first | exact Tail.pv_value | exact Tail.pv_skip)
              simp only [Act.put, List.setIfInBounds_toArray, List.set_cons_zero, List.set_cons_succ]
              apply Tail.Gq.p
              · intro wq
                (go_simp; first | exact Tail.pv_value | exact Tail.pv_skip)
              simp only [Act.put, List.setIfInBounds_toArray, List.set_cons_zero, List.set_cons_succ]
              apply Tail.Gq.p
              · intro wq
                (go_simp; first | exact Tail.pv_value | exact Tail.pv_skip)
              simp only [Act.put, List.setIfInBounds_toArray, List.set_cons_zero, List.set_cons_succ]
              apply Tail.Gq.p
              · intro wq
                (go_simp; first | exact Tail.pv_value | exact Tail.pv_skip)
              simp only [Act.put, List.setIfInBounds_toArray, List.set_cons_zero, List.set_cons_succ]
              apply Tail.Gq.p
              · intro wq
                (go_simp; first | exact Tail.pv_value | exact Tail.pv_skip)
              simp only [Act.put, List.setIfInBounds_toArray, List.set_cons_zero, List.set_cons_succ]
              apply Tail.Gq.t
              refine Tail.Gq.nil ⟨by kernel_rfl, fun w7 hb7 => ?_⟩
              simp only [List.reverse_cons, List.reverse_nil, List.nil_append]
              have O7 := Lib.hid (own_keep hb7 O5.out); have W7 := Lib.hid (b_next W5.out hb7)
              clear hb7
              obtain ⟨g7, c7, e7, -, -, -, -, hr7⟩ := own_row O7.out (by omega)
              injection e7 with e7a _ e7c
              injection e7a with e7a
              injection e7a with e7a
              subst e7a e7c
              have st3 := hr7.cell k hlt 3 (by decide)
              have sf3 := hr7.free
              clear hr7
              go_wp2_with fail
              simp only [Kit.Ends]
              go_wp2_with fail
              go_roundw
              case rel =>
                refine ⟨k + 1, by omega, by go_num, own_congr (own_set O7.out hlt (j := 3) (by decide) _) (fun a ha j hj => ?_), b_set W7.out (by omega) _⟩
                unfold upd
                try dsimp only
                by_cases e1 : a = k ∧ j = 3
                · rw [if_pos e1, if_pos ⟨e1.2, by omega⟩, e1.1, ← HTK.out]
                · rw [if_neg e1]
                  by_cases e2 : j = 3 ∧ a < k
                  · rw [if_pos e2, if_pos ⟨e2.1, by omega⟩]
                  · rw [if_neg e2, if_neg (by omega)]
              case measure => simp [intOf]; omega
            · have hkm : k = mm := by omega
              have hl : ¬ (k : Int) < (mm : Int) := by omega
              clear hbl
              go_wp2_with fail
              refine bodyPost_ret (v := .tuple #[.slice (some ⟨g2, 0, none⟩) mm gc2, .int .i64 0]) (by simp [results, Tryz.results30, go_sem]) rfl ⟨Or.inr ⟨by rw [← HEN.out]; exact h200', _, rfl, w1.heap.size, ?_⟩, B5.out⟩
              have q := O5.out
              rw [← HMF.out.1, ← HMF.out.2, ← HEN.out]
              refine own_congr q fun a ha j hj => ?_
              unfold fin
              try dsimp only
              by_cases e : j = 3
              · rw [if_pos ⟨e, by omega⟩, if_pos e]
              · rw [if_neg (fun x => e x.1), if_neg e]
end Fly
end Go.Proofs.YtmkglhoahdlogaaGreatDoor
